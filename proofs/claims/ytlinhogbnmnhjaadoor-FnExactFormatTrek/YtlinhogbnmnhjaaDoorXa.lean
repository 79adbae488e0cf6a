/- A part of the proof: values, rules, plain laws, types and contracts of the program's functions. No condition beyond the statement's own. -/
import Derived.Below
import Derived.Tactics
import Derived.Laws.AppendOwn
import Derived.Laws.CopyRow
import Derived.WalkKit
import Derived.Laws.Slices
import Derived.Laws.Tables
import Derived.Laws.MakeOwn
import Derived.Orders
namespace Go.Proofs.YtlinhogbnmnhjaaDoor.X
open Go Go.RowKit
set_option linter.unusedVariables false
set_option linter.unusedSimpArgs false

/-! abstract values -/
inductive L where
  | v (x : Value)
  | sl (z t o : Nat) (xs : List (List Value))
  | pt (i o : Nat)
  | ep (z t j o : Nat) (e : List Value)
  | x
abbrev C := Bool × List L
inductive A where
  | c (x : C)
  | tup (xs : List C)
  | u
abbrev Env := List (Nat × A)
def get : Env → Nat → A
  | [], _ => .u
  | (s, v) :: r, t => bif Nat.beq s t then v else get r t
def getb : List (Nat × List L) → Nat → Option (List L)
  | [], _ => none
  | (s, v) :: r, t => bif Nat.beq s t then some v else getb r t
/-- 'nx': tags from here on are free; 'nb': boxes from here on are free; 'N': how many slots -/
structure St where
  env : Env
  bx : List (Nat × List L)
  nx : Nat
  nb : Nat
  N : Nat
def St.put (st : St) (d : Option Nat) (v : A) : St := match d with
  | some d => { st with env := (d, v) :: st.env }
  | none => st

/-- Where tags and boxes lie. -/
structure M where
  ρ : Nat → Option (Nat × Nat)
  β : Nat → Nat
  D : Nat → Bool
  B : Nat → Bool
  L : Nat → Nat
def own (t : Nat) : Prop := 50 ≤ t

def Rd (w : World) (b p z : Nat) (xs : List (List Value)) : Prop :=
  ∀ j e, xs[j]? = some e → e.length = z ∧ ∀ i x, e[i]? = some x → x.oneCell' = true ∧ w.cell? ⟨b, p + j * z + i, none⟩ = some x
def Blk (w : World) (b k : Nat) : Prop := ∃ cs e, w.heap[b]? = some (.cells cs e (0, 0)) ∧ k ≤ cs.size

def Lr (m : M) (w : World) : L → Value → Prop
  | .v x, y => y = x ∧ x.oneCell' = true
  | .x, y => y.oneCell' = true
  | .sl z t o xs, y => m.D t = true ∧ ((m.ρ t = none ∧ (∃ ad, y = .slice ad 0 0) ∧ xs = []) ∨
      ∃ b a c p, m.ρ t = some (b, a) ∧ y = .slice (some ⟨b, p, none⟩) xs.length c ∧ (0 < c → p = a + o * z) ∧ xs.length ≤ c ∧ Rd w b (a + o * z) z xs ∧ a + (o + c) * z ≤ m.L t)
  | .pt i o, y => m.B i = true ∧ y = .pointer (some ⟨m.β i, o, none⟩)
  | .ep z t j o e, y => m.D t = true ∧ ∃ b a, m.ρ t = some (b, a) ∧ y = .pointer (some ⟨b, a + j * z + o, none⟩) ∧ Rd w b (a + j * z) z [e]

def F2 {α γ : Type} (R : α → γ → Prop) : List α → List γ → Prop
  | [], [] => True
  | a :: l, b :: r => R a b ∧ F2 R l r
  | _, _ => False

def Cr (m : M) (w : World) : C → Value → Prop
  | (true, ls), y => ∃ vs, y = .agg vs ∧ F2 (Lr m w) ls vs.toList
  | (false, [l]), y => Lr m w l y
  | (false, _), _ => False
def Ar (m : M) (w : World) : A → Value → Prop
  | .c x, y => Cr m w x y
  | .tup xs, y => ∃ vs, y = .tuple vs ∧ F2 (Cr m w) xs vs.toList
  | .u, _ => True

/-- what of the world a program's library leans on -/
structure PhiOf (P : Program) where
  Φ : World → Prop
  ext : ∀ {w w' : World}, w'.os = w.os → w'.tape = w.tape → w'.output = w.output → w.heap.size ≤ w'.heap.size → (∀ b, b < w.heap.size → w'.heap[b]? = w.heap[b]?) → Φ w → Φ w'
abbrev HasPhi (P : Program) := Inhabited (PhiOf P)
def HasPhi.Φ (P : Program) [HasPhi P] : World → Prop := (default : PhiOf P).Φ
theorem HasPhi.ext {P : Program} [HasPhi P] {w w' : World} (h1 : w'.os = w.os) (h2 : w'.tape = w.tape) (h3 : w'.output = w.output) (h4 : w.heap.size ≤ w'.heap.size) (h5 : ∀ b, b < w.heap.size → w'.heap[b]? = w.heap[b]?) (h : HasPhi.Φ P w) : HasPhi.Φ P w' := (default : PhiOf P).ext h1 h2 h3 h4 h5 h
structure K (φ : World → Prop) where
  w0 : World
  E : Nat → Prop
  m0 : M
  sta : ∀ w, w.os = w0.os → w.tape = w0.tape → w.output = w0.output → w0.heap.size ≤ w.heap.size → (∀ b, b < w0.heap.size ∧ ¬ E b → w.heap[b]? = w0.heap[b]?) → φ w

def K.low {φ : World → Prop} (k : K φ) (b : Nat) : Prop := b < k.w0.heap.size ∧ ¬ k.E b

structure Inv {φ : World → Prop} (k : K φ) (st : St) (m : M) (tm : Array Value) (w : World) : Prop where
  os : w.os = k.w0.os
  tape : w.tape = k.w0.tape
  output : w.output = k.w0.output
  size : k.w0.heap.size ≤ w.heap.size
  old : ∀ b, k.low b → w.heap[b]? = k.w0.heap[b]?
  n : ∀ t, m.D t = true → t < st.nx
  nb : ∀ i, m.B i = (getb st.bx i).isSome
  env : ∀ s, Ar m w (get st.env s) (tm.getD s undef)
  box : ∀ i ls, getb st.bx i = some ls → i < st.nb ∧ ∃ cs e, w.heap[m.β i]? = some (.cells cs e (0, 0)) ∧ F2 (Lr m w) ls cs.toList
  blow : ∀ i ls, getb st.bx i = some ls → ¬ k.low (m.β i)
  binj : ∀ i j ls ls', getb st.bx i = some ls → getb st.bx j = some ls' → m.β i = m.β j → i = j
  tag : ∀ t b a, m.D t = true → m.ρ t = some (b, a) → b < w.heap.size ∧ (own t → ¬ k.low b) ∧ (¬ own t → k.low b) ∧ ∀ i ls, getb st.bx i = some ls → m.β i ≠ b
  blk : ∀ t b a, m.D t = true → own t → m.ρ t = some (b, a) → Blk w b (m.L t)
  inj : ∀ t t' b a a', m.D t = true → m.D t' = true → own t → own t' → m.ρ t = some (b, a) → m.ρ t' = some (b, a') → t = t'
  /-- the arguments' rows and boxes stay where they are -/
  fo : ∀ t, t < 100 → m.D t = k.m0.D t ∧ m.ρ t = k.m0.ρ t ∧ m.L t = k.m0.L t
  bo : ∀ i, i < 8 → m.B i = true → k.m0.B i = true ∧ m.β i = k.m0.β i
  bigb : 8 ≤ st.nb
  nil0 : m.ρ 0 = none
  d0 : m.D 0 = true
  big : 100 ≤ st.nx
  sz : tm.size = st.N

theorem Inv.wo {φ : World → Prop} {k : K φ} {st : St} {m : M} {tm : Array Value} {w : World} (hi : Inv k st m tm w) (t : Nat) (ht : t < 100) (hd : m.D t = true) : k.m0.D t = true ∧ m.ρ t = k.m0.ρ t ∧ m.L t = k.m0.L t := by
  obtain ⟨h1, h2⟩ := hi.fo t ht
  exact ⟨by rw [← h1]; exact hd, h2⟩

theorem Lr.one {m : M} {w : World} {l : L} {y : Value} (h : Lr m w l y) : y.oneCell' = true := by
  cases l with
  | v x => obtain ⟨rfl, h⟩ := h; exact h
  | x => exact h
  | sl z t o xs => obtain ⟨_, h⟩ := h; rcases h with ⟨_, ⟨_, rfl⟩, _⟩ | ⟨b, a, c, p, _, rfl, _⟩ <;> rfl
  | pt i o => obtain ⟨_, rfl⟩ := h; rfl
  | ep z t j o e => obtain ⟨_, b, a, _, rfl, _⟩ := h; rfl

/-- Cells of a block are as they were. -/
def SameB (w w' : World) (b : Nat) : Prop := w'.heap[b]? = w.heap[b]?

theorem SameB.cell {w w' : World} {b : Nat} (h : SameB w w' b) (o : Nat) : w'.cell? ⟨b, o, none⟩ = w.cell? ⟨b, o, none⟩ := by
  have h' : w'.heap[b]? = w.heap[b]? := h
  simp [World.cell?, h']

theorem Rd.same {w w' : World} {b p z : Nat} {xs : List (List Value)} (h : Rd w b p z xs) (hs : SameB w w' b) : Rd w' b p z xs := by
  intro j e he
  obtain ⟨h1, h2⟩ := h j e he
  exact ⟨h1, fun i x hx => ⟨(h2 i x hx).1, by rw [hs.cell]; exact (h2 i x hx).2⟩⟩

theorem Blk.same {w w' : World} {b n : Nat} (h : Blk w b n) (hs : SameB w w' b) : Blk w' b n := by
  obtain ⟨cs, e, h1, h2⟩ := h
  exact ⟨cs, e, by rw [hs]; exact h1, h2⟩

/-- m' knows all that m knows. -/
structure M.Le (m m' : M) : Prop where
  D : ∀ t, m.D t = true → m'.D t = true
  B : ∀ i, m.B i = true → m'.B i = true
  ρ : ∀ t, m.D t = true → m'.ρ t = m.ρ t
  L : ∀ t, m.D t = true → m'.L t = m.L t
  β : ∀ i, m.B i = true → m'.β i = m.β i

theorem M.Le.refl (m : M) : m.Le m := ⟨fun _ h => h, fun _ h => h, fun _ _ => rfl, fun _ _ => rfl, fun _ _ => rfl⟩

/-- The blocks that leaves speak of. -/
def M.blk (m : M) (b : Nat) : Prop := ∃ t a, m.D t = true ∧ m.ρ t = some (b, a)

theorem Lr.keep {m m' : M} {w w' : World} (hm : m.Le m') (hw : ∀ b, m.blk b → SameB w w' b) {l : L} {y : Value} (h : Lr m w l y) : Lr m' w' l y := by
  cases l with
  | v x => exact h
  | x => exact h
  | sl z t o xs =>
    obtain ⟨ht, h⟩ := h
    refine ⟨hm.D t ht, ?_⟩
    rcases h with ⟨h1, h2, h3⟩ | ⟨b, a, c, p, h1, h2, h3, h4, h5, h6⟩
    · exact .inl ⟨by rw [hm.ρ t ht]; exact h1, h2, h3⟩
    · have hb : SameB w w' b := hw b ⟨t, a, ht, h1⟩
      exact .inr ⟨b, a, c, p, by rw [hm.ρ t ht]; exact h1, h2, h3, h4, h5.same hb, by rw [hm.L t ht]; exact h6⟩
  | pt i o => exact ⟨hm.B i h.1, by rw [hm.β i h.1]; exact h.2⟩
  | ep z t j o e =>
    obtain ⟨ht, b, a, h1, h2, h3⟩ := h
    have hb : SameB w w' b := hw b ⟨t, a, ht, h1⟩
    exact ⟨hm.D t ht, b, a, by rw [hm.ρ t ht]; exact h1, h2, h3.same hb⟩

theorem F2.imp {α γ : Type} {R S : α → γ → Prop} (hrs : ∀ a b, R a b → S a b) : ∀ {l : List α} {r : List γ}, F2 R l r → F2 S l r
  | [], [], _ => trivial
  | _ :: _, _ :: _, h => ⟨hrs _ _ h.1, F2.imp hrs h.2⟩
theorem F2.len {α γ : Type} {R : α → γ → Prop} : ∀ {l : List α} {r : List γ}, F2 R l r → l.length = r.length
  | [], [], _ => rfl
  | _ :: _, _ :: _, h => by simp [F2.len h.2]
theorem F2.take {α γ : Type} {R : α → γ → Prop} : ∀ (n : Nat) {l : List α} {r : List γ}, F2 R l r → F2 R (l.take n) (r.take n)
  | 0, _, _, _ => by simp [F2]
  | _ + 1, [], [], _ => trivial
  | n + 1, _ :: _, _ :: _, h => ⟨h.1, F2.take n h.2⟩
theorem F2.drop {α γ : Type} {R : α → γ → Prop} : ∀ (n : Nat) {l : List α} {r : List γ}, F2 R l r → F2 R (l.drop n) (r.drop n)
  | 0, _, _, h => h
  | _ + 1, [], [], _ => trivial
  | n + 1, _ :: _, _ :: _, h => F2.drop n h.2
theorem F2.app {α γ : Type} {R : α → γ → Prop} {l' : List α} {r' : List γ} (h' : F2 R l' r') : ∀ {l : List α} {r : List γ}, F2 R l r → F2 R (l ++ l') (r ++ r')
  | [], [], _ => h'
  | _ :: _, _ :: _, h => ⟨h.1, F2.app h' h.2⟩
theorem F2.get {α γ : Type} {R : α → γ → Prop} : ∀ {l : List α} {r : List γ}, F2 R l r → ∀ {i : Nat} {a : α}, l[i]? = some a → ∃ b, r[i]? = some b ∧ R a b
  | [], _, _, _, _, e => by simp at e
  | _ :: _, b :: _, h, 0, _, e => by simp at e; subst e; exact ⟨b, rfl, h.1⟩
  | _ :: _, _ :: _, h, i + 1, a, e => by
    simp at e
    obtain ⟨b, hb, hr⟩ := F2.get h.2 e
    exact ⟨b, by simpa using hb, hr⟩
theorem F2.get' {α γ : Type} {R : α → γ → Prop} : ∀ {l : List α} {r : List γ}, F2 R l r → ∀ {i : Nat} {b : γ}, r[i]? = some b → ∃ a, l[i]? = some a ∧ R a b
  | [], [], _, _, _, e => by simp at e
  | a :: _, _ :: _, h, 0, _, e => by simp at e; subst e; exact ⟨a, rfl, h.1⟩
  | _ :: _, _ :: _, h, i + 1, a, e => by
    simp at e
    obtain ⟨b, hb, hr⟩ := F2.get' h.2 e
    exact ⟨b, by simpa using hb, hr⟩
theorem F2.map {α γ δ ε : Type} {R : α → γ → Prop} {S : δ → ε → Prop} {f : α → δ} {g : γ → ε} (hrs : ∀ a b, R a b → S (f a) (g b)) : ∀ {l : List α} {r : List γ}, F2 R l r → F2 S (l.map f) (r.map g)
  | [], [], _ => trivial
  | _ :: _, _ :: _, h => ⟨hrs _ _ h.1, F2.map hrs h.2⟩
theorem F2.mem {α γ : Type} {R : α → γ → Prop} {p : γ → Prop} (hp : ∀ a b, R a b → p b) : ∀ {l : List α} {r : List γ}, F2 R l r → ∀ b ∈ r, p b
  | [], [], _ => by simp
  | _ :: _, _ :: _, h => by
    intro b hb
    rcases List.mem_cons.1 hb with rfl | hb
    · exact hp _ _ h.1
    · exact F2.mem hp h.2 b hb

theorem Cr.imp {m m' : M} {w w' : World} (h : ∀ l y, Lr m w l y → Lr m' w' l y) {c : C} {y : Value} (hc : Cr m w c y) : Cr m' w' c y := by
  obtain ⟨b, ls⟩ := c
  cases b with
  | true => obtain ⟨vs, rfl, hf⟩ := hc; exact ⟨vs, rfl, F2.imp h hf⟩
  | false =>
    match ls, hc with
    | [l], hc => exact h _ _ hc

theorem Ar.imp {m m' : M} {w w' : World} (h : ∀ l y, Lr m w l y → Lr m' w' l y) {x : A} {y : Value} (hc : Ar m w x y) : Ar m' w' x y := by
  cases x with
  | c x => exact Cr.imp h hc
  | tup xs => obtain ⟨vs, rfl, hf⟩ := hc; exact ⟨vs, rfl, F2.imp (fun _ _ => Cr.imp h) hf⟩
  | u => trivial

end Go.Proofs.YtlinhogbnmnhjaaDoor.X

namespace Go.Proofs.YtlinhogbnmnhjaaDoor.X
open Go Go.RowKit
set_option linter.unusedVariables false
set_option linter.unusedSimpArgs false

inductive TD where
  | int (k : IntKind) | bool | str | sl (e : Nat) | st (fs : List (Nat × Nat)) | no
structure TI where
  d : TD
  sz : Nat
  by' : Nat
  zr : List L
def conc : L → Value
  | .v x => x
  | _ => .slice none 0 0
def okz : L → Bool
  | .v x => x.oneCell'
  | .sl _ 0 0 [] => true
  | _ => false
def TyD (P : Program) (t : Nat) : TD → Prop
  | .int k => P.underlying t = some (.int k)
  | .bool => P.underlying t = some .bool
  | .str => P.underlying t = some .string
  | .sl e => P.underlying t = some (.slice e)
  | .st fs => ∃ F, P.underlying t = some (.struct F) ∧ F.toList.map (fun f => (f.type, f.offset)) = fs
  | .no => True
def TyI (P : Program) (t : Nat) (i : TI) : Prop :=
  (∃ f, P.info? t = some f ∧ f.size = i.sz ∧ f.bytes = i.by' ∧ ∃ zv, f.zero = some zv ∧ zv.cells = (i.zr.map conc).toArray) ∧ i.zr.all okz = true ∧ TyD P t i.d
def TyOK (P : Program) (T : Nat → TI) : Prop := ∀ t, (T t).d = .no ∨ TyI P t (T t)

def opnd (T : Nat → TI) (st : St) (ty : Nat) : Operand → A
  | .tmp s => get st.env s
  | .const (.int k n) => .c (false, [.v (.int k n)])
  | .const (.bool b) => .c (false, [.v (.bool b)])
  | .const (.string s) => .c (false, [.v (.string s)])
  | .const (.slice none 0 0) => match (T ty).d with
    | .sl e => .c (false, [.sl (T e).sz 0 0 []])
    | _ => .u
  | _ => .u

/-- operations on numbers, bools and strings -/
def sbin : BinOp → Value → Value → Option (Prop × Value)
  | .add, .int k a, .int k' b => if k = k' then some (True, .int k (k.wrap (a + b))) else none
  | .sub, .int k a, .int k' b => if k = k' then some (True, .int k (k.wrap (a - b))) else none
  | .mul, .int k a, .int k' b => if k = k' then some (True, .int k (k.wrap (a * b))) else none
  | .quo, .int k a, .int k' b => if k = k' then some (b ≠ 0, .int k (k.wrap (a.tdiv b))) else none
  | .rem, .int k a, .int k' b => if k = k' then some (b ≠ 0, .int k (a.tmod b)) else none
  | .and, .int k a, .int k' b => if k = k' then some (True, .int k (bits .and k a b)) else none
  | .or, .int k a, .int k' b => if k = k' then some (True, .int k (bits .or k a b)) else none
  | .xor, .int k a, .int k' b => if k = k' then some (True, .int k (bits .xor k a b)) else none
  | .shl, .int k a, .int _ b => some (0 ≤ b ∧ b ≤ k.bits, .int k (k.wrap (a * 2 ^ b.toNat)))
  | .shr, .int k a, .int _ b => some (0 ≤ b ∧ b ≤ k.bits, .int k (a / 2 ^ b.toNat))
  | .eql, .int k a, .int k' b => if k = k' then some (True, .bool (a == b)) else none
  | .neq, .int k a, .int k' b => if k = k' then some (True, .bool (a != b)) else none
  | .lss, .int k a, .int k' b => if k = k' then some (True, .bool (decide (a < b))) else none
  | .leq, .int k a, .int k' b => if k = k' then some (True, .bool (decide (a ≤ b))) else none
  | .gtr, .int k a, .int k' b => if k = k' then some (True, .bool (decide (a > b))) else none
  | .geq, .int k a, .int k' b => if k = k' then some (True, .bool (decide (a ≥ b))) else none
  | .eql, .bool a, .bool b => some (True, .bool (a == b))
  | .neq, .bool a, .bool b => some (True, .bool (!(a == b)))
  | .add, .string ⟨⟨a⟩⟩, .string ⟨⟨b⟩⟩ => some (a.length + b.length ≤ 9223372036854775807, .string ⟨⟨a ++ b⟩⟩)
  | .eql, .string ⟨⟨a⟩⟩, .string ⟨⟨b⟩⟩ => some (True, .bool (a == b))
  | .neq, .string ⟨⟨a⟩⟩, .string ⟨⟨b⟩⟩ => some (True, .bool (!(a == b)))
  | _, _, _ => none

theorem run_equal_bool {P : Program} (w : World) (t : Nat) (a b : Bool) (h : P.underlying t = some .bool) : (Op.equal t (.bool a) (.bool b)).run P w = .ok (a == b) w := by
  have : ∀ d, (Op.equalIn (d + 1) t (.bool a) (.bool b)).run P w = .ok (a == b) w := by intro d; simp [Op.equalIn, run_underlying h]
  exact this 9999

set_option maxHeartbeats 1000000 in
theorem sbin_sound {P : Program} (w : World) (t : Nat) (x' y' : Operand) {op : BinOp} {x y v : Value} {p : Prop} (hb : ∀ a b, x = .bool a → y = .bool b → P.underlying t = some .bool)
    (h : sbin op x y = some (p, v)) (hp : p) :
    ((do eqGuard op t x' y' x y; binOp op t x y : Sem Value)).run P w = .ok v w ∧ v.oneCell' = true := by
  unfold sbin at h
  split at h <;> (try split at h) <;> simp only [Option.some.injEq, Prod.mk.injEq, reduceCtorEq] at h <;> obtain ⟨rfl, rfl⟩ := h <;> (refine ⟨?_, rfl⟩)
  case h_1.isTrue hk => subst hk; simp [eqGuard, binOp, Op.intArith]
  case h_2.isTrue hk => subst hk; simp [eqGuard, binOp, Op.intArith]
  case h_3.isTrue hk => subst hk; simp [eqGuard, binOp, Op.intArith]
  case h_4.isTrue hk => subst hk; simp [eqGuard, binOp, Op.intDiv, hp]
  case h_5.isTrue hk => subst hk; simp [eqGuard, binOp, Op.intDiv, hp]
  case h_6.isTrue hk => subst hk; simp [eqGuard, binOp, intBits_and]
  case h_7.isTrue hk => subst hk; simp [eqGuard, binOp, intBits_or]
  case h_8.isTrue hk => subst hk; simp [eqGuard, binOp, intBits_xor]
  case h_9 => simp [eqGuard, binOp, shift_shl _ _ _ _ hp.1 hp.2]
  case h_10 => simp [eqGuard, binOp, shift_shr _ _ _ _ hp.1 hp.2]
  case h_11.isTrue hk => subst hk; simp [eqGuard, binOp, Op.intCmp]
  case h_12.isTrue hk => subst hk; simp [eqGuard, binOp, Op.intCmp]
  case h_13.isTrue hk => subst hk; simp [eqGuard, binOp, Op.intCmp]
  case h_14.isTrue hk => subst hk; simp [eqGuard, binOp, Op.intCmp]
  case h_15.isTrue hk => subst hk; simp [eqGuard, binOp, Op.intCmp]
  case h_16.isTrue hk => subst hk; simp [eqGuard, binOp, Op.intCmp]
  case h_17 a b => simp [eqGuard, binOp, run_equal_bool w t a b (hb _ _ rfl rfl)]
  case h_18 a b => simp [eqGuard, binOp, run_equal_bool w t a b (hb _ _ rfl rfl)]
  case h_19 a b => have := run_string_add_lists (P := P); simp [eqGuard, binOp]; rw [run_string_add_sum w _ _ (by simpa [ByteArray.size] using hp), ByteArray.mk_append_mk]
  case h_20 a b => simp [eqGuard, binOp, Op.stringOp]
  case h_21 a b => simp [eqGuard, binOp, Op.stringOp]
end Go.Proofs.YtlinhogbnmnhjaaDoor.X

namespace Go.Proofs.YtlinhogbnmnhjaaDoor.X
open Go Go.RowKit
set_option linter.unusedVariables false
set_option linter.unusedSimpArgs false

def isSt (T : Nat → TI) (t : Nat) : Bool := match (T t).d with
  | .st _ => true
  | _ => false
def hasT (T : Nat → TI) (t : Nat) : Bool := match (T t).d with
  | .no => false
  | _ => true
def mkC : Bool → List L → Option A
  | true, ls => some (.c (true, ls))
  | false, [l] => some (.c (false, [l]))
  | false, _ => none
def fld (T : Nat → TI) (s f : Nat) : Option (Nat × Nat) := match (T s).d with
  | .st fs => fs[f]?
  | _ => none
def cellsAt (T : Nat → TI) (t : Nat) (ls : List L) (o : Nat) : Option (Prop × A) :=
  if o + (T t).sz ≤ ls.length then (if hasT T t then (mkC (isSt T t) ((ls.drop o).take (T t).sz)).map fun x => (True, x) else none) else none
def pvLoad (T : Nat → TI) (st : St) (t : Nat) : A → Option (Prop × A)
  | .c (false, [.pt i o]) => match getb st.bx i with
    | some ls => cellsAt T t ls o
    | none => none
  | .c (false, [.ep z tg j o e]) => cellsAt T t (e.map .v) o
  | _ => none
def pvBin (T : Nat → TI) (t : Nat) (op : BinOp) : A → A → Option (Prop × A)
  | .c (false, [.v x]), .c (false, [.v y]) => match (T t).d, x with
    | .bool, _ => (sbin op x y).map fun r => (r.1, .c (false, [.v r.2]))
    | _, .bool _ => none
    | _, _ => (sbin op x y).map fun r => (r.1, .c (false, [.v r.2]))
  | _, _ => none
def pvUn (op : UnOp) : A → Option (Prop × A)
  | .c (false, [.v (.bool b)]) => match op with
    | .not => some (True, .c (false, [.v (.bool (!b))]))
    | _ => none
  | .c (false, [.v (.int k n)]) => match op with
    | .neg => some (True, .c (false, [.v (.int k (k.wrap (0 - n)))]))
    | _ => none
  | _ => none
def pvConv (T : Nat → TI) (s d : Nat) : A → Option (Prop × A)
  | .c (false, [.v (.int k n)]) => match (T s).d, (T d).d with
    | .int _, .int k' => some (True, .c (false, [.v (.int k' (k'.wrap n))]))
    | .int _, .str => some (True, .c (false, [.v (.string (Utf8.encode n))]))
    | _, _ => none
  | .c (false, [.v (.string x)]) => match (T s).d, (T d).d with
    | .str, .str => some (True, .c (false, [.v (.string x)]))
    | _, _ => none
  | _ => none
/-- bounds of a cut: 'lo' and 'hi' as numbers -/
def bnd (x : Option A) (dflt : Nat) : Option (Nat × Int) := match x with
  | none => some (dflt, dflt)
  | some (.c (false, [.v (.int _ n)])) => some (n.toNat, n)
  | _ => none
def cutL {α : Type} (hi : Option A) (l h : Nat) (xs : List α) : List α := match hi with
  | none => xs.drop l
  | some _ => (xs.take h).drop l
def pvCut (T : Nat → TI) (t : Nat) (lo hi : Option A) : A → Option (Prop × A)
  | .c (false, [.sl z tg o xs]) => match (T t).d with
    | .sl e => if (T e).sz = z then (if hasT T e then match bnd lo 0, bnd hi xs.length with
      | some (l, l'), some (h, h') => some (0 ≤ l' ∧ l' ≤ h' ∧ h' ≤ xs.length, .c (false, [.sl z tg (o + l) (cutL hi l h xs)]))
      | _, _ => none
      else none) else none
    | _ => none
  | .c (false, [.v (.string ⟨⟨s⟩⟩)]) => match (T t).d with
    | .str => match bnd lo 0, bnd hi s.length with
      | some (l, l'), some (h, h') => some (0 ≤ l' ∧ l' ≤ h' ∧ h' ≤ s.length, .c (false, [.v (.string ⟨⟨cutL hi l h s⟩⟩)]))
      | _, _ => none
    | _ => none
  | _ => none
def pvFA (T : Nat → TI) (s f : Nat) : A → Option (Prop × A)
  | .c (false, [.pt i o]) => match fld T s f with
    | some (ft, off) => if hasT T ft && Nat.blt 0 (T ft).sz then some (True, .c (false, [.pt i (o + off)])) else none
    | none => none
  | .c (false, [.ep z tg j o e]) => match fld T s f with
    | some (ft, off) => if hasT T ft && Nat.blt 0 (T ft).sz then some (True, .c (false, [.ep z tg j (o + off) e])) else none
    | none => none
  | _ => none
def pvField (T : Nat → TI) (s f : Nat) : A → Option (Prop × A)
  | .c (true, ls) => match fld T s f with
    | some (ft, off) => cellsAt T ft ls off
    | none => none
  | _ => none
def pvIA (T : Nat → TI) (t : Nat) : A → A → Option (Prop × A)
  | .c (false, [.sl z tg o xs]), .c (false, [.v (.int _ i)]) => match (T t).d with
    | .sl e => if (T e).sz = z then (if hasT T e then some (0 ≤ i ∧ i < xs.length, .c (false, [.ep z tg (o + i.toNat) 0 (xs.getD i.toNat [])])) else none) else none
    | _ => none
  | _, _ => none
def pvIx (T : Nat → TI) (t : Nat) : A → A → Option (Prop × A)
  | .c (false, [.v (.string ⟨⟨s⟩⟩)]), .c (false, [.v (.int _ i)]) => match (T t).d with
    | .str => some (0 ≤ i ∧ i < s.length, .c (false, [.v (.int .u8 (s.getD i.toNat 0).toNat)]))
    | _ => none
  | _, _ => none
def pvExt (i : Nat) : A → Option (Prop × A)
  | .tup xs => match xs[i]? with
    | some c => some (True, .c c)
    | none => none
  | _ => none
def fillA (fs : List (Nat × Nat)) (T : Nat → TI) : List L → List (Nat × A) → Option (List L)
  | cs, [] => some cs
  | cs, (i, .c (b, ls)) :: r => match fs[i]? with
    | some (ft, off) => if ls.length = (T ft).sz ∧ off + ls.length ≤ cs.length then fillA fs T (cs.take off ++ ls ++ cs.drop (off + ls.length)) r else none
    | none => none
  | _, _ => none
def pvBuild (T : Nat → TI) (t : Nat) (ps : List (Nat × A)) : Option (Prop × A) := match (T t).d with
  | .st fs => if fs.all (fun p => hasT T p.1) then (fillA fs T (T t).zr ps).map fun ls => (True, .c (true, ls)) else none
  | _ => none
def pvLen (T : Nat → TI) (t : Nat) : A → Option (Prop × A)
  | .c (false, [.sl z tg o xs]) => match (T t).d with
    | .sl _ => some (True, .c (false, [.v (.int .i64 (xs.length : Nat))]))
    | _ => none
  | .c (false, [.v (.string ⟨⟨s⟩⟩)]) => match (T t).d with
    | .str => some (True, .c (false, [.v (.int .i64 (s.length : Nat))]))
    | _ => none
  | _ => none
def pvMM (mx : Bool) : A → A → Option (Prop × A)
  | .c (false, [.v (.int k a)]), .c (false, [.v (.int _ b)]) => some (True, .c (false, [.v (.int k (if mx then (if b > a then b else a) else (if b < a then b else a)))]))
  | _, _ => none
/-- the type of a struct's fields, for nil among the parts -/
def fty (T : Nat → TI) (t i : Nat) : Nat := match fld T t i with
  | some (ft, _) => ft
  | none => 0
def pv (T : Nat → TI) (st : St) (o : Oper) : Option (Prop × A) := match o.op with
  | .move x | .assign x => some (True, opnd T st o.type x)
  | .pick c a b => match opnd T st 0 c with
    | .c (false, [.v (.bool true)]) => some (True, opnd T st o.type a)
    | .c (false, [.v (.bool false)]) => some (True, opnd T st o.type b)
    | _ => none
  | .load t x => pvLoad T st t (opnd T st 0 x)
  | .nilCheck x => match opnd T st 0 x with
    | .c (false, [.pt i o]) => some (True, .c (false, [.pt i o]))
    | .c (false, [.ep z t j o e]) => some (True, .c (false, [.ep z t j o e]))
    | _ => none
  | .binOp op t x y _ => pvBin T t op (opnd T st 0 x) (opnd T st 0 y)
  | .unOp op _ x => pvUn op (opnd T st 0 x)
  | .convert s d x => pvConv T s d (opnd T st 0 x)
  | .slice t x lo hi none => pvCut T t (lo.map (opnd T st 0)) (hi.map (opnd T st 0)) (opnd T st 0 x)
  | .fieldAddr s x f => pvFA T s f (opnd T st 0 x)
  | .field s x f => pvField T s f (opnd T st 0 x)
  | .indexAddr t x i => pvIA T t (opnd T st 0 x) (opnd T st 0 i)
  | .index t x i => pvIx T t (opnd T st 0 x) (opnd T st 0 i)
  | .extract x i => pvExt i (opnd T st 0 x)
  | .build t ps => pvBuild T t (ps.toList.map fun (i, x) => (i, opnd T st (fty T t i) x))
  | .call { callee := .builtin .len, args := ⟨[x]⟩, argTypes := ⟨[t]⟩ } => pvLen T t (opnd T st 0 x)
  | .call { callee := .builtin .min, args := ⟨[x, y]⟩, argTypes := _ } => pvMM false (opnd T st 0 x) (opnd T st 0 y)
  | .call { callee := .builtin .max, args := ⟨[x, y]⟩, argTypes := _ } => pvMM true (opnd T st 0 x) (opnd T st 0 y)
  | _ => none
end Go.Proofs.YtlinhogbnmnhjaaDoor.X

namespace Go.Proofs.YtlinhogbnmnhjaaDoor.X
open Go Go.RowKit
set_option linter.unusedVariables false
set_option linter.unusedSimpArgs false

theorem TyOK.of {P : Program} {T : Nat → TI} (h : TyOK P T) {t : Nat} (ht : hasT T t = true) : TyI P t (T t) := by
  rcases h t with h | h
  · simp [hasT, h] at ht
  · exact h

theorem addAt (b o j : Nat) : (⟨b, o, none⟩ : Addr).add j = ⟨b, o + j, none⟩ := by
  unfold Addr.add; split
  · rename_i h; subst h; rfl
  · rfl

section
variable {P : Program} {T : Nat → TI} (w : World)

theorem run_und (hT : TyOK P T) {t : Nat} (ht : hasT T t = true) : ∃ d, P.underlying t = some d ∧ (isSt T t = true → ∃ F, d = .struct F) ∧ (isSt T t = false → (∀ F, d ≠ .struct F) ∧ ∀ n e, d ≠ .array n e) := by
  obtain ⟨_, _, h⟩ := hT.of ht
  cases hd : (T t).d with
  | no => simp [hasT, hd] at ht
  | int k => rw [hd] at h; exact ⟨_, h, by simp [isSt, hd], by simp⟩
  | bool => rw [hd] at h; exact ⟨_, h, by simp [isSt, hd], by simp⟩
  | str => rw [hd] at h; exact ⟨_, h, by simp [isSt, hd], by simp⟩
  | sl e => rw [hd] at h; exact ⟨_, h, by simp [isSt, hd], by simp⟩
  | st fs => rw [hd] at h; obtain ⟨F, h, _⟩ := h; exact ⟨_, h, by simp, by simp [isSt, hd]⟩

theorem run_isAgg (hT : TyOK P T) (w : World) {t : Nat} (ht : hasT T t = true) : (isAgg t).run P w = .ok (isSt T t) w := by
  obtain ⟨d, h1, h2, h3⟩ := run_und hT ht
  have h1' := run_underlying h1 w
  cases hs : isSt T t with
  | true => obtain ⟨F, rfl⟩ := h2 hs; simp [isAgg, h1']
  | false =>
    obtain ⟨h4, h5⟩ := h3 hs
    cases d <;> simp_all [isAgg]

theorem run_sizeOf (hT : TyOK P T) (w : World) {t : Nat} (ht : hasT T t = true) : (sizeOf t).run P w = .ok (T t).sz w := by
  obtain ⟨⟨f, hf, hs, _⟩, _⟩ := hT.of ht
  simp [sizeOf, typeInfo, hf, hs]

/-- Cells that read as 'vs' give a value of the type. -/
theorem run_loadVar_at (hT : TyOK P T) (w : World) {t : Nat} (ht : hasT T t = true) (b o : Nat) (vs : List Value) (hl : vs.length = (T t).sz)
    (h : ∀ j v, vs[j]? = some v → w.cell? ⟨b, o + j, none⟩ = some v) :
    (isSt T t = true → (loadVar t ⟨b, o, none⟩).run P w = .ok (.agg vs.toArray) w) ∧ (isSt T t = false → ∀ v, vs = [v] → (loadVar t ⟨b, o, none⟩).run P w = .ok v w) := by
  constructor
  · intro hs
    have h1 := run_loadCells_list (P := P) (w := w) ⟨b, o, none⟩ vs (fun j v hv => by rw [addAt]; exact h j v hv)
    rw [hl] at h1
    simp [loadVar, run_isAgg hT w ht, hs, run_sizeOf hT w ht, h1]
  · rintro hs v rfl
    have h1 := h 0 v rfl
    simp only [Nat.add_zero] at h1
    simp [loadVar, run_isAgg hT w ht, hs, h1]

theorem cellsAt_load (hT : TyOK P T) (w : World) {m : M} {t o b base : Nat} {ls : List L} {vs : List Value} {p : Prop} {v : A} (hf : F2 (Lr m w) ls vs)
    (hc : ∀ j x, vs[j]? = some x → w.cell? ⟨b, base + j, none⟩ = some x) (h : cellsAt T t ls o = some (p, v)) :
    ∃ r, (loadVar t ⟨b, base + o, none⟩).run P w = .ok r w ∧ Ar m w v r := by
  unfold cellsAt at h
  split at h
  · rename_i hlen
    split at h
    · rename_i ht
      have hl := F2.len hf
      have hf' := F2.take (T t).sz (F2.drop o hf)
      have hvl : ((vs.drop o).take (T t).sz).length = (T t).sz := by simp; omega
      have hcell : ∀ j x, ((vs.drop o).take (T t).sz)[j]? = some x → w.cell? ⟨b, base + o + j, none⟩ = some x := by
        intro j x hx
        rw [List.getElem?_take] at hx
        split at hx
        · rw [List.getElem?_drop] at hx
          have := hc (o + j) x hx
          rw [Nat.add_assoc]; exact this
        · cases hx
      obtain ⟨h1, h2⟩ := run_loadVar_at hT w ht b (base + o) _ hvl hcell
      cases hs : isSt T t with
      | true =>
        simp [hs, mkC] at h
        obtain ⟨_, rfl⟩ := h
        exact ⟨_, h1 hs, _, rfl, by simpa using hf'⟩
      | false =>
        rw [hs] at h
        generalize hls : (ls.drop o).take (T t).sz = ls' at h hf'
        generalize hvs : (vs.drop o).take (T t).sz = vs' at h2 hf'
        match ls', vs', h, hf' with
        | [l], [x], h, hf' =>
          simp [mkC] at h
          obtain ⟨_, rfl⟩ := h
          exact ⟨_, h2 hs x rfl, hf'.1⟩
    · cases h
  · cases h

theorem cellsAt_part (hT : TyOK P T) (w : World) {m : M} {t o : Nat} {ls : List L} {vs : List Value} {p : Prop} {v : A} (hf : F2 (Lr m w) ls vs) (h : cellsAt T t ls o = some (p, v)) :
    ∃ r, (part t vs.toArray o).run P w = .ok r w ∧ Ar m w v r := by
  unfold cellsAt at h
  split at h
  · rename_i hlen
    split at h
    · rename_i ht
      have hl := F2.len hf
      have hf' := F2.take (T t).sz (F2.drop o hf)
      cases hs : isSt T t with
      | true =>
        simp [hs, mkC] at h
        obtain ⟨_, rfl⟩ := h
        refine ⟨.agg ((vs.drop o).take (T t).sz).toArray, ?_, _, rfl, by simpa using hf'⟩
        simp [part, run_isAgg hT w ht, hs, run_sizeOf hT w ht, List.extract_eq_take_drop]
      | false =>
        rw [hs] at h
        generalize hls : (ls.drop o).take (T t).sz = ls' at h hf'
        generalize hvs : (vs.drop o).take (T t).sz = vs' at hf'
        match ls', vs', h, hf' with
        | [l], [x], h, hf' =>
          simp [mkC] at h
          obtain ⟨_, rfl⟩ := h
          have hx : vs[o]? = some x := by
            have h0 : ((vs.drop o).take (T t).sz)[0]? = some x := by rw [hvs]; rfl
            rw [List.getElem?_take] at h0
            split at h0
            · simpa using h0
            · cases h0
          refine ⟨x, ?_, hf'.1⟩
          simp [part, run_isAgg hT w ht, hs, hx]
    · cases h
  · cases h
end
end Go.Proofs.YtlinhogbnmnhjaaDoor.X

namespace Go.Proofs.YtlinhogbnmnhjaaDoor.X
open Go Go.RowKit
set_option linter.unusedVariables false
set_option linter.unusedSimpArgs false
set_option linter.unusedSectionVars false

def Bx (m : M) (w : World) (bx : List (Nat × List L)) : Prop := ∀ i ls, getb bx i = some ls → ∃ cs e, w.heap[m.β i]? = some (.cells cs e (0, 0)) ∧ F2 (Lr m w) ls cs.toList

section
variable {P : Program} {T : Nat → TI} {m : M} {w : World}

theorem opnd_sound (hT : TyOK P T) {st : St} {tm : Array Value} (henv : ∀ s, Ar m w (get st.env s) (tm.getD s undef)) (hn : m.ρ 0 = none) (hb : m.D 0 = true) (ds : List Deferred) (ty : Nat) (x : Operand) :
    Ar m w (opnd T st ty x) ((Act.mk tm ds).eval x) := by
  cases x with
  | tmp s => exact henv s
  | const v =>
    cases v with
    | int k n => exact ⟨rfl, rfl⟩
    | bool b => exact ⟨rfl, rfl⟩
    | string s => exact ⟨rfl, rfl⟩
    | slice a l c =>
      unfold opnd
      split
      · rename_i h; cases h
      · rename_i h; cases h
      · rename_i h; cases h
      · rename_i h; cases h
      · rename_i h
        simp only [Operand.const.injEq, Value.slice.injEq] at h
        obtain ⟨rfl, rfl, rfl⟩ := h
        split
        · exact ⟨hb, .inl ⟨hn, ⟨_, rfl⟩, rfl⟩⟩
        · trivial
      · trivial
    | _ => trivial
  | global g => trivial
  | func f => trivial

theorem pvLoad_sound (hT : TyOK P T) {st : St} {t : Nat} {x v : A} {y : Value} {p : Prop} (hbx : Bx m w st.bx) (hx : Ar m w x y) (h : pvLoad T st t x = some (p, v)) :
    ∃ r, (Instr.loadAt t y).run P w = .ok r w ∧ Ar m w v r := by
  unfold pvLoad at h
  split at h
  · rename_i i o
    split at h
    · rename_i ls hls
      obtain ⟨_, rfl⟩ := hx
      obtain ⟨cs, e, h1, h2⟩ := hbx i ls hls
      obtain ⟨r, hr, hv⟩ := cellsAt_load hT w (b := m.β i) (base := 0) h2 (by
        intro j x hx
        have hc : cs[j]? = some x := by simpa using hx
        simp [World.cell?, h1, hc]) h
      exact ⟨r, by simpa [Instr.loadAt, Instr.sureAddr] using hr, hv⟩
    · cases h
  · rename_i z tg j o e
    obtain ⟨_, b, a, h1, rfl, h3⟩ := hx
    have h5 := h3 0 e rfl
    simp only [Nat.zero_mul, Nat.add_zero] at h5
    have hf : F2 (Lr m w) (e.map L.v) e := by
      have : ∀ l : List Value, (∀ x ∈ l, x.oneCell' = true) → F2 (Lr m w) (l.map L.v) l := by
        intro l
        induction l with
        | nil => intro _; trivial
        | cons a l ih => intro hh; exact ⟨⟨rfl, hh a (by simp)⟩, ih (fun x hx => hh x (by simp [hx]))⟩
      refine this e (fun x hx => ?_)
      obtain ⟨i, hi, rfl⟩ := List.getElem_of_mem hx
      exact (h5.2 i _ (List.getElem?_eq_getElem hi)).1
    obtain ⟨r, hr, hv⟩ := cellsAt_load hT w (b := b) (base := a + j * z) hf (fun i x hx => (h5.2 i x hx).2) h
    exact ⟨r, by simpa [Instr.loadAt, Instr.sureAddr] using hr, hv⟩
  · cases h

theorem Lr_v {x : Value} {y : Value} (h : Ar m w (.c (false, [.v x])) y) : y = x := h.1

theorem map_some' {α β : Type} {x : Option α} {f : α → β} {y : β} (h : x.map f = some y) : ∃ r, x = some r ∧ f r = y := by
  cases x with
  | none => cases h
  | some r => exact ⟨r, rfl, by simpa using h⟩

theorem pvBin_sound (hT : TyOK P T) {t : Nat} {op : BinOp} {x y v : A} {a b : Value} {p : Prop} (x' y' : Operand) (hx : Ar m w x a) (hy : Ar m w y b) (h : pvBin T t op x y = some (p, v)) (hp : p) :
    ∃ r, ((do eqGuard op t x' y' a b; binOp op t a b : Sem Value)).run P w = .ok r w ∧ Ar m w v r := by
  unfold pvBin at h
  split at h
  · obtain ⟨rfl, ho1⟩ := hx
    obtain ⟨rfl, ho2⟩ := hy
    split at h
    · rename_i hd
      obtain ⟨r, hs, hr⟩ := map_some' h
      simp only [Prod.mk.injEq] at hr
      obtain ⟨rfl, rfl⟩ := hr
      have hty : P.underlying t = some .bool := by
        have := (hT.of (t := t) (by simp [hasT, hd])).2.2
        rw [hd] at this; exact this
      obtain ⟨h1, h2⟩ := sbin_sound (P := P) w t x' y' (fun _ _ _ _ => hty) (p := r.1) (v := r.2) hs hp
      exact ⟨_, h1, rfl, h2⟩
    · cases h
    · rename_i hq hnb
      obtain ⟨r, hs, hr⟩ := map_some' h
      simp only [Prod.mk.injEq] at hr
      obtain ⟨rfl, rfl⟩ := hr
      obtain ⟨h1, h2⟩ := sbin_sound (P := P) w t x' y' (fun a b e _ => by first | exact (hq a e).elim | exact (hnb a e).elim) (p := r.1) (v := r.2) hs hp
      exact ⟨_, h1, rfl, h2⟩
  · cases h

theorem pvUn_sound {op : UnOp} {x v : A} {a : Value} {p : Prop} (hx : Ar m w x a) (h : pvUn op x = some (p, v)) :
    ∃ r, (Op.unary op a).run P w = .ok r w ∧ Ar m w v r := by
  unfold pvUn at h
  split at h
  · obtain ⟨rfl, _⟩ := hx
    split at h
    · simp only [Option.some.injEq, Prod.mk.injEq] at h; obtain ⟨rfl, rfl⟩ := h; exact ⟨_, rfl, rfl, rfl⟩
    · cases h
  · obtain ⟨rfl, _⟩ := hx
    split at h
    · simp only [Option.some.injEq, Prod.mk.injEq] at h; obtain ⟨rfl, rfl⟩ := h; exact ⟨_, rfl, rfl, rfl⟩
    · cases h
  · cases h

theorem tyD (hT : TyOK P T) {t : Nat} (h : (T t).d ≠ .no) : TyD P t (T t).d := by
  rcases hT t with h' | h'
  · exact (h h').elim
  · exact h'.2.2

theorem pvConv_sound (hT : TyOK P T) {s d : Nat} {x v : A} {a : Value} {p : Prop} (hx : Ar m w x a) (h : pvConv T s d x = some (p, v)) :
    ∃ r, (convert s d a).run P w = .ok r w ∧ Ar m w v r := by
  unfold pvConv at h
  split at h
  · obtain ⟨rfl, _⟩ := hx
    split at h
    · rename_i k1 k2 h1 h2
      have e1 := tyD hT (t := s) (by simp [h1]); rw [h1] at e1
      have e2 := tyD hT (t := d) (by simp [h2]); rw [h2] at e2
      simp only [Option.some.injEq, Prod.mk.injEq] at h; obtain ⟨rfl, rfl⟩ := h
      exact ⟨_, by simp [convert, run_underlying e1, run_underlying e2, Conv.intToInt], rfl, rfl⟩
    · rename_i k1 h1 h2
      have e1 := tyD hT (t := s) (by simp [h1]); rw [h1] at e1
      have e2 := tyD hT (t := d) (by simp [h2]); rw [h2] at e2
      simp only [Option.some.injEq, Prod.mk.injEq] at h; obtain ⟨rfl, rfl⟩ := h
      exact ⟨_, by simp [convert, run_underlying e1, run_underlying e2, Conv.intToString], rfl, rfl⟩
    · cases h
  · obtain ⟨rfl, _⟩ := hx
    split at h
    · rename_i h1 h2
      have e1 := tyD hT (t := s) (by simp [h1]); rw [h1] at e1
      have e2 := tyD hT (t := d) (by simp [h2]); rw [h2] at e2
      simp only [Option.some.injEq, Prod.mk.injEq] at h; obtain ⟨rfl, rfl⟩ := h
      exact ⟨_, by simp [convert, run_underlying e1, run_underlying e2], rfl, rfl⟩
    · cases h
  · cases h
end
end Go.Proofs.YtlinhogbnmnhjaaDoor.X

namespace Go.Proofs.YtlinhogbnmnhjaaDoor.X
open Go Go.RowKit
set_option linter.unusedVariables false
set_option linter.unusedSimpArgs false
set_option linter.unusedSectionVars false

theorem Rd.cut {w : World} {b p z : Nat} {xs : List (List Value)} (h : Rd w b p z xs) (l n : Nat) : Rd w b (p + l * z) z ((xs.take n).drop l) := by
  intro j e he
  rw [List.getElem?_drop, List.getElem?_take] at he
  split at he
  · obtain ⟨h1, h2⟩ := h _ e he
    refine ⟨h1, fun i x hx => ⟨(h2 i x hx).1, ?_⟩⟩
    have := (h2 i x hx).2
    rw [show p + l * z + j * z + i = p + (l + j) * z + i from by rw [Nat.add_mul]; omega]
    exact this
  · cases he

theorem sl_shape {m : M} {w : World} {z t o : Nat} {xs : List (List Value)} {y : Value} (h : Lr m w (.sl z t o xs) y) : ∃ a c, y = .slice a xs.length c ∧ xs.length ≤ c := by
  obtain ⟨_, h⟩ := h
  rcases h with ⟨_, ⟨_, rfl⟩, rfl⟩ | ⟨b, a, c, p, _, rfl, _, hc, _⟩
  · exact ⟨_, _, rfl, Nat.le_refl _⟩
  · exact ⟨_, _, rfl, hc⟩

theorem cut_rep {m : M} {w : World} {z t o c : Nat} {xs : List (List Value)} {a : Option Addr} (h : Lr m w (.sl z t o xs) (.slice a xs.length c)) {l n : Nat} (hl : l ≤ n) (hn : n ≤ xs.length) :
    Lr m w (.sl z t (o + l) ((xs.take n).drop l)) (sliced a l n c z) := by
  obtain ⟨ht, h⟩ := h
  refine ⟨ht, ?_⟩
  rcases h with ⟨h1, h2, h3⟩ | ⟨b, a', c', p, h1, h2, h3, h4, h5, h6⟩
  · subst h3
    obtain ⟨ad, h2⟩ := h2
    simp only [Value.slice.injEq] at h2
    obtain ⟨_, _, hc⟩ := h2
    subst hc
    simp only [List.length_nil, Nat.le_zero] at hn
    subst hn
    have : l = 0 := by omega
    subst this
    exact .inl ⟨h1, ⟨a, by simp [sliced]⟩, by simp⟩
  · simp only [Value.slice.injEq] at h2
    obtain ⟨rfl, _, rfl⟩ := h2
    refine .inr ⟨b, a', c - l, if c = l then p else p + l * z, h1, ?_, ?_, ?_, ?_, ?_⟩
    · have hlen : ((xs.take n).drop l).length = n - l := by simp; omega
      rw [hlen]
      simp only [sliced]
      split
      · rfl
      · simp [addAt]
    · intro hc
      have hc' : c ≠ l := by omega
      rw [if_neg hc', h3 (by omega), Nat.add_mul]; omega
    · simp; omega
    · have := h5.cut l n
      rw [show a' + (o + l) * z = a' + o * z + l * z from by rw [Nat.add_mul]; omega]
      exact this
    · rw [show o + l + (c - l) = o + c from by omega]
      exact h6

section
variable {P : Program} {T : Nat → TI} {m : M} {w : World}

theorem bnd_sound (hT : TyOK P T) {x : Option A} {y : Option Value} {d l : Nat} {l' : Int} (hx : ∀ q, x = some q → ∃ v, y = some v ∧ Ar m w q v) (hn : x = none → y = none) (h : bnd x d = some (l, l')) (hp : 0 ≤ l') :
    l'.toNat = l ∧ ((y = none ∧ l = d) ∨ ∃ k, y = some (.int k l')) := by
  unfold bnd at h
  split at h
  · simp only [Option.some.injEq, Prod.mk.injEq] at h
    obtain ⟨rfl, rfl⟩ := h
    exact ⟨by omega, .inl ⟨hn rfl, rfl⟩⟩
  · rename_i k n
    simp only [Option.some.injEq, Prod.mk.injEq] at h
    obtain ⟨rfl, rfl⟩ := h
    obtain ⟨v, rfl, hv, _⟩ := hx _ rfl
    exact ⟨rfl, .inr ⟨k, by rw [hv]⟩⟩
  · cases h

theorem cutL_eq {α : Type} {hi : Option A} {l n : Nat} {xs : List α} (h : hi = none → n = xs.length) : cutL hi l n xs = (xs.take n).drop l := by
  cases hi with
  | none => simp [cutL, h rfl]
  | some _ => rfl

theorem run_cut (hT : TyOK P T) {t e : Nat} {z : Nat} (ht : P.underlying t = some (.slice (P.elem t))) (he : P.elem t = e) (hse : (sizeOf e).run P w = .ok z w) (ad : Option Addr) (len c l n : Nat) (hc : len ≤ c) (hl : l ≤ n) (hn : n ≤ len)
    {lo hi : Option Value} {l' n' : Int} (hl' : l' = l) (hn' : n' = n) (h1 : (lo = none ∧ l = 0) ∨ ∃ k, lo = some (.int k l')) (h2 : (hi = none ∧ n = len) ∨ ∃ k, hi = some (.int k n')) :
    (Instr.sliceAt t (.slice ad len c) lo hi none).run P w = .ok (sliced ad l n c z) w := by
  subst hl' hn'
  rcases h1 with ⟨rfl, rfl⟩ | ⟨k, rfl⟩ <;> rcases h2 with ⟨rfl, rfl⟩ | ⟨k', rfl⟩
  · simp [run_sliceAt_slice w t _ _ _ _ ht, run_slice_all w t ad _ c ht, he, hse]
  · simp [run_sliceAt_slice w t _ _ _ _ ht, run_slice_h w t ad _ c ht k' n (by omega) (by omega), he, hse]
  · simp [run_sliceAt_slice w t _ _ _ _ ht, run_slice_l w t ad n c ht k (l : Nat) (by omega) (by omega), he, hse]
  · simp [run_sliceAt_slice w t _ _ _ _ ht, run_slice_lh w t ad _ c ht k k' l n (by omega) (by omega) (by omega), he, hse]

theorem extract_mk (s : List UInt8) (l n : Nat) : (⟨⟨s⟩⟩ : ByteArray).extract l n = ⟨⟨(s.take n).drop l⟩⟩ := by
  apply ByteArray.ext
  simp [ByteArray.data_extract, List.extract_eq_take_drop, List.drop_take]

theorem run_cutS (hT : TyOK P T) {t : Nat} (ht : P.underlying t = some .string) (s : List UInt8) (l n : Nat) (hl : l ≤ n) (hn : n ≤ s.length)
    {lo hi : Option Value} {l' n' : Int} (hl' : l' = l) (hn' : n' = n) (h1 : (lo = none ∧ l = 0) ∨ ∃ k, lo = some (.int k l')) (h2 : (hi = none ∧ n = s.length) ∨ ∃ k, hi = some (.int k n')) :
    (Instr.sliceAt t (.string ⟨⟨s⟩⟩) lo hi none).run P w = .ok (.string ⟨⟨(s.take n).drop l⟩⟩) w := by
  subst hl' hn'
  have hs : (⟨⟨s⟩⟩ : ByteArray).size = s.length := rfl
  rw [run_sliceAt_string w t _ _ _ _ ht]
  rcases h1 with ⟨rfl, rfl⟩ | ⟨k, rfl⟩ <;> rcases h2 with ⟨rfl, rfl⟩ | ⟨k', rfl⟩
  · simp [Instr.slice, run_underlying ht, Instr.sliceBounds, hs, extract_mk]
  · have := run_sliceBound (P := P) w k' n s.length .sliceAlen (by omega) (by omega)
    simp [Instr.slice, run_underlying ht, Instr.sliceBounds, hs, extract_mk, this]
  · have := run_sliceBound (P := P) w k l s.length .sliceB (by omega) (by omega)
    simp [Instr.slice, run_underlying ht, Instr.sliceBounds, hs, extract_mk, this]
  · have := run_sliceBound (P := P) w k l n .sliceB (by omega) (by omega)
    have h' := run_sliceBound (P := P) w k' n s.length .sliceAlen (by omega) (by omega)
    simp [Instr.slice, run_underlying ht, Instr.sliceBounds, hs, extract_mk, this, h']

theorem pvCut_sound (hT : TyOK P T) {t : Nat} {lo hi : Option A} {lo' hi' : Option Value} {x v : A} {a : Value} {p : Prop} (hx : Ar m w x a)
    (hlo : ∀ q, lo = some q → ∃ v, lo' = some v ∧ Ar m w q v) (hlo0 : lo = none → lo' = none) (hhi : ∀ q, hi = some q → ∃ v, hi' = some v ∧ Ar m w q v) (hhi0 : hi = none → hi' = none)
    (h : pvCut T t lo hi x = some (p, v)) (hp : p) :
    ∃ r, (Instr.sliceAt t a lo' hi' none).run P w = .ok r w ∧ Ar m w v r := by
  have hlast : ∀ {n : Nat} {n' : Int} {len : Nat}, bnd hi len = some (n, n') → hi = none → n = len := by
    rintro n n' len hb rfl
    simp only [bnd, Option.some.injEq, Prod.mk.injEq] at hb
    exact hb.1.symm
  unfold pvCut at h
  split at h
  · rename_i z tg o xs
    split at h
    · rename_i e hd
      split at h
      · rename_i hz
        split at h
        · rename_i hte
          have ht := tyD hT (t := t) (by simp [hd]); rw [hd] at ht
          have ht' : P.underlying t = some (.slice e) := ht
          have he : P.elem t = e := by simp [Program.elem, ht']
          have htt : P.underlying t = some (.slice (P.elem t)) := by rw [he]; exact ht'
          obtain ⟨ad, c, rfl, hc⟩ := sl_shape hx
          have hse := run_sizeOf hT w hte
          rw [hz] at hse
          split at h
          · rename_i l l' n n' hb1 hb2
            simp only [Option.some.injEq, Prod.mk.injEq] at h
            obtain ⟨rfl, rfl⟩ := h
            obtain ⟨p1, p2, p3⟩ := hp
            obtain ⟨h2, h3⟩ := bnd_sound hT (m := m) (w := w) hlo hlo0 hb1 p1
            obtain ⟨g2, g3⟩ := bnd_sound hT (m := m) (w := w) hhi hhi0 hb2 (by omega)
            refine ⟨_, run_cut hT htt he hse ad _ c l n hc (by omega) (by omega) (by omega) (by omega) h3 g3, ?_⟩
            rw [cutL_eq (hlast hb2)]
            exact cut_rep hx (by omega) (by omega)
          · cases h
        · cases h
      · cases h
    · cases h
  · rename_i s
    obtain ⟨rfl, _⟩ := hx
    split at h
    · rename_i hd
      have ht := tyD hT (t := t) (by simp [hd]); rw [hd] at ht
      split at h
      · rename_i l l' n n' hb1 hb2
        simp only [Option.some.injEq, Prod.mk.injEq] at h
        obtain ⟨rfl, rfl⟩ := h
        obtain ⟨p1, p2, p3⟩ := hp
        obtain ⟨h2, h3⟩ := bnd_sound hT (m := m) (w := w) hlo hlo0 hb1 p1
        obtain ⟨g2, g3⟩ := bnd_sound hT (m := m) (w := w) hhi hhi0 hb2 (by omega)
        refine ⟨_, run_cutS hT ht s l n (by omega) (by omega) (by omega) (by omega) h3 g3, ?_⟩
        rw [cutL_eq (hlast hb2)]
        exact ⟨rfl, rfl⟩
      · cases h
    · cases h
  · cases h
end
end Go.Proofs.YtlinhogbnmnhjaaDoor.X

namespace Go.Proofs.YtlinhogbnmnhjaaDoor.X
open Go Go.RowKit
set_option linter.unusedVariables false
set_option linter.unusedSimpArgs false
set_option linter.unusedSectionVars false

section
variable {P : Program} {T : Nat → TI} {m : M} {w : World}

theorem fld_sound (hT : TyOK P T) {s f ft off : Nat} (h : fld T s f = some (ft, off)) : ∃ F fd, P.underlying s = some (.struct F) ∧ F[f]? = some fd ∧ fd.type = ft ∧ fd.offset = off := by
  unfold fld at h
  split at h
  · rename_i fs hd
    have ht := tyD hT (t := s) (by simp [hd]); rw [hd] at ht
    obtain ⟨F, hF, hfs⟩ := ht
    subst hfs
    rw [List.getElem?_map] at h
    obtain ⟨fd, h1, h2⟩ := map_some' h
    simp only [Prod.mk.injEq] at h2
    exact ⟨F, fd, hF, by simpa using h1, h2.1, h2.2⟩
  · cases h

theorem run_fieldAt (hT : TyOK P T) {s f ft off b o : Nat} (h : fld T s f = some (ft, off)) (hft : hasT T ft = true) (hsz : 0 < (T ft).sz) :
    (Instr.fieldAt s (.pointer (some ⟨b, o, none⟩)) f).run P w = .ok (.pointer (some ⟨b, o + off, none⟩)) w := by
  obtain ⟨F, fd, h1, h2, rfl, rfl⟩ := fld_sound hT h
  have h3 := run_sizeOf hT w hft
  have : (T fd.type).sz ≠ 0 := by omega
  simp [Instr.fieldAt, run_underlying h1, h2, Instr.sureAddr, fieldPlace, h3, this, addAt]

theorem pvFA_sound (hT : TyOK P T) {s f : Nat} {x v : A} {a : Value} {p : Prop} (hx : Ar m w x a) (h : pvFA T s f x = some (p, v)) :
    ∃ r, (Instr.fieldAt s a f).run P w = .ok r w ∧ Ar m w v r := by
  unfold pvFA at h
  split at h
  · obtain ⟨h0, rfl⟩ := hx
    split at h
    · rename_i ft off hf
      split at h
      · rename_i hc
        simp only [Bool.and_eq_true] at hc
        simp only [Option.some.injEq, Prod.mk.injEq] at h
        obtain ⟨rfl, rfl⟩ := h
        exact ⟨_, run_fieldAt hT hf hc.1 (by simpa [Nat.blt_eq] using hc.2), h0, rfl⟩
      · cases h
    · cases h
  · obtain ⟨h0, b, a', h1, rfl, h3⟩ := hx
    split at h
    · rename_i ft off hf
      split at h
      · rename_i hc
        simp only [Bool.and_eq_true] at hc
        simp only [Option.some.injEq, Prod.mk.injEq] at h
        obtain ⟨rfl, rfl⟩ := h
        exact ⟨_, run_fieldAt hT hf hc.1 (by simpa [Nat.blt_eq] using hc.2), h0, b, a', h1, by rw [Nat.add_assoc], h3⟩
      · cases h
    · cases h
  · cases h

theorem pvField_sound (hT : TyOK P T) {s f : Nat} {x v : A} {a : Value} {p : Prop} (hx : Ar m w x a) (h : pvField T s f x = some (p, v)) :
    ∃ r, (Instr.field s a f).run P w = .ok r w ∧ Ar m w v r := by
  unfold pvField at h
  split at h
  · obtain ⟨vs, rfl, hf⟩ := hx
    split at h
    · rename_i ft off hfl
      obtain ⟨F, fd, h1, h2, rfl, rfl⟩ := fld_sound hT hfl
      obtain ⟨r, hr, hv⟩ := cellsAt_part hT w hf h
      exact ⟨r, by simp [Instr.field, run_underlying h1, h2, asAgg] at hr ⊢; exact hr, hv⟩
    · cases h
  · cases h

theorem pvIA_sound (hT : TyOK P T) {t : Nat} {x i v : A} {a b : Value} {p : Prop} (hx : Ar m w x a) (hi : Ar m w i b) (h : pvIA T t x i = some (p, v)) (hp : p) :
    ∃ r, (Instr.indexAt t a b).run P w = .ok r w ∧ Ar m w v r := by
  unfold pvIA at h
  split at h
  · rename_i z tg o xs k i
    obtain ⟨rfl, _⟩ := hi
    split at h
    · rename_i e hd
      split at h
      · rename_i hz
        split at h
        · rename_i hte
          have ht := tyD hT (t := t) (by simp [hd]); rw [hd] at ht
          have ht' : P.underlying t = some (.slice e) := ht
          have he : P.elem t = e := by simp [Program.elem, ht']
          have htt : P.underlying t = some (.slice (P.elem t)) := by rw [he]; exact ht'
          have hse := run_sizeOf hT w hte
          rw [hz] at hse
          simp only [Option.some.injEq, Prod.mk.injEq] at h
          obtain ⟨rfl, rfl⟩ := h
          obtain ⟨h0, hx⟩ := hx
          rcases hx with ⟨h1, h2, h3⟩ | ⟨b, a', c, q, h1, rfl, h3, h4, h5, h6⟩
          · subst h3; simp only [List.length_nil] at hp; omega
          · have hlt : i.toNat < xs.length := by omega
            have hq := h3 (by omega)
            subst hq
            refine ⟨_, ?_, h0, b, a', h1, rfl, ?_⟩
            · rw [run_indexAt_slice w t _ _ _ _ _ htt, if_pos hp, he, hse]
              simp only [Result.andThen_ok, addAt]
              rw [show a' + o * z + i.toNat * z = a' + (o + i.toNat) * z + 0 from by rw [Nat.add_mul]; omega]
            · have hg : xs.getD i.toNat [] = xs[i.toNat] := by simp [List.getD, hlt]
              rw [hg]
              intro j e' he'
              cases j with
              | zero =>
                simp at he'
                subst he'
                obtain ⟨g1, g2⟩ := h5 i.toNat _ (List.getElem?_eq_getElem hlt)
                refine ⟨g1, fun l x hx => ⟨(g2 l x hx).1, ?_⟩⟩
                have := (g2 l x hx).2
                rw [show a' + (o + i.toNat) * z + 0 * z + l = a' + o * z + i.toNat * z + l from by rw [Nat.add_mul]; omega]
                exact this
              | succ j => simp at he'
        · cases h
      · cases h
    · cases h
  · cases h

theorem pvIx_sound (hT : TyOK P T) {t : Nat} {x i v : A} {a b : Value} {p : Prop} (hx : Ar m w x a) (hi : Ar m w i b) (h : pvIx T t x i = some (p, v)) (hp : p) :
    ∃ r, (Instr.index t a b).run P w = .ok r w ∧ Ar m w v r := by
  unfold pvIx at h
  split at h
  · rename_i s k i
    obtain ⟨rfl, _⟩ := hx
    obtain ⟨rfl, _⟩ := hi
    split at h
    · rename_i hd
      have ht := tyD hT (t := t) (by simp [hd]); rw [hd] at ht
      simp only [Option.some.injEq, Prod.mk.injEq] at h
      obtain ⟨rfl, rfl⟩ := h
      have hlt : i.toNat < s.length := by omega
      have hg : (⟨⟨s⟩⟩ : ByteArray)[i.toNat]? = some (s.getD i.toNat 0) := by
        have hlt' : i.toNat < (⟨⟨s⟩⟩ : ByteArray).size := hlt
        rw [getElem?_pos (⟨⟨s⟩⟩ : ByteArray) i.toNat hlt']
        simp [List.getD, hlt, ByteArray.getElem_eq_getElem_data]
      exact ⟨_, by simp [Instr.index, asIntOf, run_underlying ht, hp.1, hg], rfl, rfl⟩
    · cases h
  · cases h

theorem pvExt_sound {i : Nat} {x v : A} {a : Value} {p : Prop} (hx : Ar m w x a) (h : pvExt i x = some (p, v)) :
    ∃ r, (Instr.extract a i).run P w = .ok r w ∧ Ar m w v r := by
  unfold pvExt at h
  split at h
  · obtain ⟨vs, rfl, hf⟩ := hx
    split at h
    · rename_i c hc
      simp only [Option.some.injEq, Prod.mk.injEq] at h
      obtain ⟨rfl, rfl⟩ := h
      obtain ⟨b, hb, hr⟩ := F2.get hf hc
      exact ⟨b, by simp [Instr.extract, show vs[i]? = some b from by simpa using hb], hr⟩
    · cases h
  · cases h

theorem pvLen_sound (hT : TyOK P T) {t ty : Nat} {x v : A} {a : Value} {p : Prop} (hx : Ar m w x a) (h : pvLen T t x = some (p, v)) :
    ∃ r, (Builtin.len_ #[t] ty #[a]).run P w = .ok r w ∧ Ar m w v r := by
  unfold pvLen at h
  split at h
  · obtain ⟨ad, c, rfl, _⟩ := sl_shape hx
    split at h
    · rename_i e hd
      have ht := tyD hT (t := t) (by simp [hd]); rw [hd] at ht
      simp only [Option.some.injEq, Prod.mk.injEq] at h
      obtain ⟨rfl, rfl⟩ := h
      exact ⟨_, by simp [Builtin.len_, run_underlying ht, goInt], rfl, rfl⟩
    · cases h
  · obtain ⟨rfl, _⟩ := hx
    split at h
    · rename_i hd
      have ht := tyD hT (t := t) (by simp [hd]); rw [hd] at ht
      simp only [Option.some.injEq, Prod.mk.injEq] at h
      obtain ⟨rfl, rfl⟩ := h
      exact ⟨_, by simp [Builtin.len_, run_underlying ht, goInt]; rfl, rfl, rfl⟩
    · cases h
  · cases h

theorem pvMM_sound {mx : Bool} {ty : Nat} {ts : Array Nat} {x y v : A} {a b : Value} {p : Prop} (hx : Ar m w x a) (hy : Ar m w y b) (h : pvMM mx x y = some (p, v)) :
    ∃ r, (if mx then Builtin.max_ ts ty #[a, b] else Builtin.min_ ts ty #[a, b]).run P w = .ok r w ∧ Ar m w v r := by
  unfold pvMM at h
  split at h
  · obtain ⟨rfl, _⟩ := hx
    obtain ⟨rfl, _⟩ := hy
    simp only [Option.some.injEq, Prod.mk.injEq] at h
    obtain ⟨rfl, rfl⟩ := h
    cases mx
    · exact ⟨_, by simp [Builtin.min_, Builtin.min2], rfl, rfl⟩
    · exact ⟨_, by simp [Builtin.max_, Builtin.max2], rfl, rfl⟩
  · cases h
end
end Go.Proofs.YtlinhogbnmnhjaaDoor.X

namespace Go.Proofs.YtlinhogbnmnhjaaDoor.X
open Go Go.RowKit
set_option linter.unusedVariables false
set_option linter.unusedSimpArgs false
set_option linter.unusedSectionVars false

theorem Cr.cells {m : M} {w : World} {b : Bool} {ls : List L} {v : Value} (h : Cr m w (b, ls) v) : F2 (Lr m w) ls v.cells.toList := by
  cases b with
  | true => obtain ⟨vs, rfl, hf⟩ := h; exact hf
  | false =>
    match ls, h with
    | [l], h =>
      have h1 := Lr.one h
      have : v.cells = #[v] := by cases v <;> simp_all [Value.cells, Value.oneCell']
      rw [this]
      exact ⟨h, trivial⟩

theorem setRange (off : Nat) : ∀ (l : List Value) (k : Nat) (cs : Array Value), off + k + l.length ≤ cs.size →
    ((l.zipIdx k).foldl (fun (cs : Array Value) (x : Value × Nat) => cs.setIfInBounds (off + x.2) x.1) cs).toList = cs.toList.take (off + k) ++ l ++ cs.toList.drop (off + k + l.length)
  | [], k, cs, _ => by simp
  | v :: l, k, cs, h => by
    simp only [List.length_cons] at h
    rw [List.zipIdx_cons, List.foldl_cons, setRange off l (k + 1) _ (by simp; omega)]
    rw [Array.toList_setIfInBounds]
    have hl : cs.toList.length = cs.size := by simp
    rw [← hl] at h
    generalize cs.toList = xs at h
    have e1 : (xs.set (off + k) v).take (off + (k + 1)) = xs.take (off + k) ++ [v] := by
      rw [← Nat.add_assoc, List.take_succ_eq_append_getElem (by simp; omega)]
      simp [List.take_set_of_le]
    have e2 : (xs.set (off + k) v).drop (off + (k + 1) + l.length) = xs.drop (off + k + (v :: l).length) := by
      rw [List.drop_set_of_lt (by omega)]
      congr 1
      simp; omega
    rw [e1, e2]
    simp

section
variable {P : Program} {T : Nat → TI} {m : M} {w : World}

theorem places_ok (hT : TyOK P T) : ∀ (F : List Field), (∀ f ∈ F, hasT T f.type = true) → F.mapM (fun f => (P.info? f.type).map fun i => (f.offset, i.size)) = some (F.map fun f => (f.offset, (T f.type).sz))
  | [], _ => rfl
  | f :: F, h => by
    obtain ⟨⟨i, h1, h2, _⟩, _⟩ := hT.of (h f (by simp))
    have := places_ok hT F (fun g hg => h g (by simp [hg]))
    simp only [List.mapM_cons, h1, this, Option.map_some, h2]
    rfl

theorem fill_sound (F : List Field) : ∀ (ps : List (Nat × A)) (qs : List (Nat × Value)) (cs : List L) (ds : Array Value) (r : List L),
    F2 (fun x y => x.1 = y.1 ∧ Ar m w x.2 y.2) ps qs → F2 (Lr m w) cs ds.toList → fillA (F.map fun f => (f.type, f.offset)) T cs ps = some r →
    ∃ es, Instr.fill (fun i => (F.map fun f => (f.offset, (T f.type).sz))[i]?) ds qs = some es ∧ F2 (Lr m w) r es.toList
  | [], [], cs, ds, r, _, hc, h => by simp only [fillA, Option.some.injEq] at h; subst h; exact ⟨ds, rfl, hc⟩
  | (i, x) :: ps, (i', v) :: qs, cs, ds, r, ⟨⟨hi, hx⟩, hr⟩, hc, h => by
    simp only at hi
    subst hi
    unfold fillA at h
    split at h
    · rename_i heq
      simp at heq
    · rename_i i2 b ls rest heq
      simp only [List.cons.injEq, Prod.mk.injEq] at heq
      obtain ⟨⟨rfl, rfl⟩, rfl⟩ := heq
      split at h
      · rename_i ft off hf
        split at h
        · rename_i hcond
          rw [List.getElem?_map] at hf
          obtain ⟨fd, hfd, hf2⟩ := map_some' hf
          simp only [Prod.mk.injEq] at hf2
          obtain ⟨rfl, rfl⟩ := hf2
          have hcells := Cr.cells (b := b) (ls := ls) hx
          have hl := F2.len hcells
          have hl2 := F2.len hc
          simp only [Array.length_toList] at hl hl2
          have hsz : v.cells.size = (T fd.type).sz := by rw [← hl]; exact hcond.1
          have hb : fd.offset + v.cells.size ≤ ds.size := by rw [← hl, ← hl2]; exact hcond.2
          have hset : (v.cells.zipIdx.foldl (fun (cs : Array Value) (x : Value × Nat) => cs.setIfInBounds (fd.offset + x.2) x.1) ds).toList = ds.toList.take fd.offset ++ v.cells.toList ++ ds.toList.drop (fd.offset + v.cells.size) := by
            have := setRange fd.offset v.cells.toList 0 ds (by simpa using hb)
            rw [← Array.foldl_toList, Array.toList_zipIdx]
            simpa using this
          obtain ⟨es, h1, h2⟩ := fill_sound F ps qs _ (v.cells.zipIdx.foldl (fun (cs : Array Value) (x : Value × Nat) => cs.setIfInBounds (fd.offset + x.2) x.1) ds) r hr (by
            rw [hset]
            refine F2.app ?_ (F2.app hcells (F2.take _ hc))
            have := F2.drop (fd.offset + ls.length) hc
            rw [hl] at this ⊢
            exact this) h
          refine ⟨es, ?_, h2⟩
          unfold Instr.fill
          simp only [List.getElem?_map, hfd, Option.map_some]
          rw [if_neg (by simp [hsz]; omega)]
          simpa using h1
        · cases h
      · cases h
    · cases h

theorem zr_ok (hn : m.ρ 0 = none) (h0 : m.D 0 = true) : ∀ {l : List L}, l.all okz = true → F2 (Lr m w) l (l.map conc).toArray.toList
  | [], _ => trivial
  | a :: l, hh => by
    simp only [List.all_cons, Bool.and_eq_true] at hh
    refine ⟨?_, by simpa using zr_ok hn h0 (l := l) hh.2⟩
    have ha := hh.1
    unfold okz at ha
    split at ha
    · exact ⟨rfl, ha⟩
    · exact ⟨h0, .inl ⟨hn, ⟨_, rfl⟩, rfl⟩⟩
    · cases ha

theorem pvBuild_sound (hT : TyOK P T) {t : Nat} {ps : List (Nat × A)} {qs : Array (Nat × Value)} {v : A} {p : Prop} (hn : m.ρ 0 = none) (h0 : m.D 0 = true) (hps : F2 (fun x y => x.1 = y.1 ∧ Ar m w x.2 y.2) ps qs.toList) (h : pvBuild T t ps = some (p, v)) :
    ∃ r, (Instr.build t qs).run P w = .ok r w ∧ Ar m w v r := by
  unfold pvBuild at h
  split at h
  · rename_i fs hd
    have hty := tyD hT (t := t) (by simp [hd]); rw [hd] at hty
    obtain ⟨F, hF, hfs⟩ := hty
    subst hfs
    obtain ⟨⟨i, hi1, hi2, hi3, zv, hz1, hz2⟩, hz3, _⟩ := hT.of (t := t) (by simp [hasT, hd])
    split at h
    · rename_i hall
      obtain ⟨ls, hls, hv⟩ := map_some' h
      simp only [Prod.mk.injEq] at hv
      obtain ⟨rfl, rfl⟩ := hv
      have hz : F2 (Lr m w) (T t).zr zv.cells.toList := by
        rw [hz2]
        exact zr_ok hn h0 hz3
      obtain ⟨es, h1, h2⟩ := fill_sound F.toList ps qs.toList _ _ ls hps hz hls
      refine ⟨_, run_build w t qs es ?_, es, rfl, h2⟩
      unfold Program.built
      have hpl := places_ok hT F.toList (by
        intro f hf
        have := List.all_eq_true.1 hall (f.type, f.offset) (List.mem_map.2 ⟨f, hf, rfl⟩)
        exact this)
      rw [hi1, hF]
      simp only [hz1, hpl]
      simpa using h1
    · cases h
  · cases h
end
end Go.Proofs.YtlinhogbnmnhjaaDoor.X

namespace Go.Proofs.YtlinhogbnmnhjaaDoor.X
open Go Go.RowKit
set_option linter.unusedVariables false
set_option linter.unusedSimpArgs false
set_option linter.unusedSectionVars false

theorem Inv.bx {φ : World → Prop} {k : K φ} {st : St} {m : M} {tm : Array Value} {w : World} (h : Inv k st m tm w) : Bx m w st.bx := fun i ls h' => (h.box i ls h').2
theorem Inv.pos {φ : World → Prop} {k : K φ} {st : St} {m : M} {tm : Array Value} {w : World} (h : Inv k st m tm w) : m.D 0 = true := h.d0

section
variable {P : Program} {T : Nat → TI}

theorem opnd_inv (hT : TyOK P T) {φ : World → Prop} {k : K φ} {st : St} {m : M} {a : Act} {w : World} (hi : Inv k st m a.tmps w) (ty : Nat) (x : Operand) : Ar m w (opnd T st ty x) (a.eval x) :=
  opnd_sound hT hi.env hi.nil0 hi.pos a.defers ty x

set_option maxHeartbeats 1000000 in
theorem pv_sound (hT : TyOK P T) {φ : World → Prop} {k : K φ} {st : St} {m : M} {a : Act} {w : World} (hi : Inv k st m a.tmps w) {o : Oper} {p : Prop} {v : A} (h : pv T st o = some (p, v)) (hp : p) :
    ∃ r, (execOp a.eval o).run P w = .ok (.value r) w ∧ Ar m w v r := by
  have ho := fun ty x => opnd_inv hT hi ty x
  unfold pv at h
  split at h
  case h_1 x he => simp only [Option.some.injEq, Prod.mk.injEq] at h; obtain ⟨rfl, rfl⟩ := h; exact ⟨_, by simp [execOp, he], ho _ _⟩
  case h_2 x he => simp only [Option.some.injEq, Prod.mk.injEq] at h; obtain ⟨rfl, rfl⟩ := h; exact ⟨_, by simp [execOp, he], ho _ _⟩
  case h_3 c x y he =>
    have hc := ho 0 c
    split at h
    · rename_i hq
      rw [hq] at hc
      simp only [Option.some.injEq, Prod.mk.injEq] at h; obtain ⟨rfl, rfl⟩ := h
      exact ⟨_, by simp [execOp, he, hc.1, asBool], ho _ _⟩
    · rename_i hq
      rw [hq] at hc
      simp only [Option.some.injEq, Prod.mk.injEq] at h; obtain ⟨rfl, rfl⟩ := h
      exact ⟨_, by simp [execOp, he, hc.1, asBool], ho _ _⟩
    · cases h
  case h_4 t x he =>
    obtain ⟨r, hr, hv⟩ := pvLoad_sound hT hi.bx (ho 0 x) h
    exact ⟨r, by simp [execOp, he, hr], hv⟩
  case h_5 x he =>
    have hc := ho 0 x
    split at h
    · rename_i hq
      rw [hq] at hc
      simp only [Option.some.injEq, Prod.mk.injEq] at h; obtain ⟨rfl, rfl⟩ := h
      exact ⟨a.eval x, by simp [execOp, he, hc.2], hc⟩
    · rename_i hq
      rw [hq] at hc
      simp only [Option.some.injEq, Prod.mk.injEq] at h; obtain ⟨rfl, rfl⟩ := h
      obtain ⟨h0, b, a', h1, h2, h3⟩ := id hc
      exact ⟨a.eval x, by simp [execOp, he, h2], hc⟩
    · cases h
  case h_6 op t x y ty he =>
    obtain ⟨r, hr, hv⟩ := pvBin_sound hT x y (ho 0 x) (ho 0 y) h hp
    exact ⟨r, by simp only [execOp, he, Sem.run_bind, hr, Result.andThen_ok, Sem.run_pure], hv⟩
  case h_7 op t x he =>
    obtain ⟨r, hr, hv⟩ := pvUn_sound (P := P) (ho 0 x) h
    exact ⟨r, by simp only [execOp, he, Sem.run_bind, hr, Result.andThen_ok, Sem.run_pure], hv⟩
  case h_8 s d x he =>
    obtain ⟨r, hr, hv⟩ := pvConv_sound hT (ho 0 x) h
    exact ⟨r, by simp only [execOp, he, Sem.run_bind, hr, Result.andThen_ok, Sem.run_pure], hv⟩
  case h_9 t x lo hi' he =>
    obtain ⟨r, hr, hv⟩ := pvCut_sound hT (lo' := lo.map a.eval) (hi' := hi'.map a.eval) (ho 0 x)
      (by intro q hq; obtain ⟨y, rfl, rfl⟩ := map_some' hq; exact ⟨_, rfl, ho 0 y⟩) (by intro hq; cases lo <;> simp_all)
      (by intro q hq; obtain ⟨y, rfl, rfl⟩ := map_some' hq; exact ⟨_, rfl, ho 0 y⟩) (by intro hq; cases hi' <;> simp_all) h hp
    exact ⟨r, by simp only [execOp, he, Sem.run_bind, Option.map_none, hr, Result.andThen_ok, Sem.run_pure], hv⟩
  case h_10 s x f he =>
    obtain ⟨r, hr, hv⟩ := pvFA_sound hT (ho 0 x) h
    exact ⟨r, by simp only [execOp, he, Sem.run_bind, hr, Result.andThen_ok, Sem.run_pure], hv⟩
  case h_11 s x f he =>
    obtain ⟨r, hr, hv⟩ := pvField_sound hT (ho 0 x) h
    exact ⟨r, by simp only [execOp, he, Sem.run_bind, hr, Result.andThen_ok, Sem.run_pure], hv⟩
  case h_12 t x i he =>
    obtain ⟨r, hr, hv⟩ := pvIA_sound hT (ho 0 x) (ho 0 i) h hp
    exact ⟨r, by simp only [execOp, he, Sem.run_bind, hr, Result.andThen_ok, Sem.run_pure], hv⟩
  case h_13 t x i he =>
    obtain ⟨r, hr, hv⟩ := pvIx_sound hT (ho 0 x) (ho 0 i) h hp
    exact ⟨r, by simp only [execOp, he, Sem.run_bind, hr, Result.andThen_ok, Sem.run_pure], hv⟩
  case h_14 x i he =>
    obtain ⟨r, hr, hv⟩ := pvExt_sound (P := P) (ho 0 x) h
    exact ⟨r, by simp only [execOp, he, Sem.run_bind, hr, Result.andThen_ok, Sem.run_pure], hv⟩
  case h_15 t ps he =>
    obtain ⟨r, hr, hv⟩ := pvBuild_sound hT (qs := ps.map fun (i, x) => (i, a.eval x)) hi.nil0 hi.pos (by
      rw [Array.toList_map]
      have : ∀ l : List (Nat × Operand), F2 (fun (x : Nat × A) (y : Nat × Value) => x.1 = y.1 ∧ Ar m w x.2 y.2) (l.map fun (i, x) => (i, opnd T st (fty T t i) x)) (l.map fun (i, x) => (i, a.eval x)) := by
        intro l
        induction l with
        | nil => trivial
        | cons q l ih => exact ⟨⟨rfl, ho _ _⟩, ih⟩
      exact this _) h
    exact ⟨r, by simp only [execOp, he, Sem.run_bind, hr, Result.andThen_ok, Sem.run_pure], hv⟩
  case h_16 x t he =>
    obtain ⟨r, hr, hv⟩ := pvLen_sound hT (ty := o.type) (ho 0 x) h
    exact ⟨r, by simp [execOp, he, resolve, invoke, builtin, hr], hv⟩
  case h_17 x y ts he =>
    obtain ⟨r, hr, hv⟩ := pvMM_sound (P := P) (ty := o.type) (ts := ts) (ho 0 x) (ho 0 y) h
    simp only [Bool.false_eq_true, if_false] at hr
    exact ⟨r, by simp [execOp, he, resolve, invoke, builtin, hr], hv⟩
  case h_18 x y ts he =>
    obtain ⟨r, hr, hv⟩ := pvMM_sound (P := P) (ty := o.type) (ts := ts) (ho 0 x) (ho 0 y) h
    simp only [if_true] at hr
    exact ⟨r, by simp [execOp, he, resolve, invoke, builtin, hr], hv⟩
  case h_19 => cases h
end
end Go.Proofs.YtlinhogbnmnhjaaDoor.X

namespace Go.Proofs.YtlinhogbnmnhjaaDoor.X
open Go Go.RowKit
set_option linter.unusedVariables false
set_option linter.unusedSimpArgs false
set_option linter.unusedSectionVars false

def upd {α : Type} (f : Nat → α) (i : Nat) (v : α) : Nat → α := fun j => if j = i then v else f j

theorem getD_set (tm : Array Value) (d s : Nat) (y : Value) (hd : d < tm.size) : (tm.setIfInBounds d y).getD s undef = if s = d then y else tm.getD s undef := by
  simp only [Array.getD_eq_getD_getElem?, Array.getElem?_setIfInBounds]
  by_cases h : d = s
  · subst h; simp [hd]
  · simp [h, Ne.symm h]

theorem get_cons (s d : Nat) (v : A) (e : Env) : get ((d, v) :: e) s = if s = d then v else get e s := by
  show (bif Nat.beq d s then v else get e s) = _
  by_cases h : s = d
  · subst h; simp
  · have : Nat.beq d s = false := by
      cases hb : Nat.beq d s with
      | false => rfl
      | true => exact absurd (Nat.eq_of_beq_eq_true hb).symm h
    simp [this, h]

theorem Inv.put {φ : World → Prop} {k : K φ} {st : St} {m : M} {tm : Array Value} {w : World} (hi : Inv k st m tm w) {d : Nat} {v : A} {y : Value} (hd : d < st.N) (hv : Ar m w v y) :
    Inv k { st with env := (d, v) :: st.env } m (tm.setIfInBounds d y) w :=
  { hi with
    env := by
      intro s
      have hd' : d < tm.size := by rw [hi.sz]; exact hd
      show Ar m w (get ((d, v) :: st.env) s) _
      rw [getD_set _ _ _ _ hd', get_cons]
      split
      · exact hv
      · exact hi.env s
    sz := by simpa using hi.sz }

/-- The slot's value under another name. -/
theorem Inv.reput {φ : World → Prop} {k : K φ} {st : St} {m : M} {tm : Array Value} {w : World} (hi : Inv k st m tm w) {d : Nat} {v : A} (hv : Ar m w v (tm.getD d undef)) :
    Inv k { st with env := (d, v) :: st.env } m tm w :=
  { hi with
    env := by
      intro s
      show Ar m w (get ((d, v) :: st.env) s) _
      rw [get_cons]
      split
      · rename_i h; subst h; exact hv
      · exact hi.env s }

/-- Nothing that was there has turned. -/
structure Ext (w w' : World) : Prop where
  os : w'.os = w.os
  tape : w'.tape = w.tape
  output : w'.output = w.output
  size : w.heap.size ≤ w'.heap.size
  block : ∀ b, b < w.heap.size → w'.heap[b]? = w.heap[b]?

theorem Ext.refl (w : World) : Ext w w := ⟨rfl, rfl, rfl, Nat.le_refl _, fun _ _ => rfl⟩
theorem Ext.trans {a b c : World} (h : Ext a b) (g : Ext b c) : Ext a c :=
  ⟨g.os.trans h.os, g.tape.trans h.tape, g.output.trans h.output, Nat.le_trans h.size g.size, fun i hi => (g.block i (Nat.lt_of_lt_of_le hi h.size)).trans (h.block i hi)⟩
theorem Ext.alloc (w : World) (o : Obj) : Ext w (w.alloc o) := ⟨rfl, rfl, rfl, by simp, fun b hb => Below.heap_alloc w o b hb⟩
theorem Ext.drew (w : World) : Ext w w.drew := ⟨rfl, rfl, rfl, Nat.le_refl _, fun _ _ => rfl⟩

theorem Inv.blk_lt {φ : World → Prop} {k : K φ} {st : St} {m : M} {tm : Array Value} {w : World} (hi : Inv k st m tm w) {b : Nat} (h : m.blk b) : b < w.heap.size := by
  obtain ⟨t, a, h1, h2⟩ := h
  exact (hi.tag t b a h1 h2).1

theorem Inv.lr_ext {φ : World → Prop} {k : K φ} {st : St} {m m' : M} {tm : Array Value} {w w' : World} (hi : Inv k st m tm w) (hx : Ext w w') (hm : m.Le m') {l : L} {y : Value} (h : Lr m w l y) : Lr m' w' l y :=
  h.keep hm (fun b hb => hx.block b (hi.blk_lt hb))

theorem Inv.box_lt {φ : World → Prop} {k : K φ} {st : St} {m : M} {tm : Array Value} {w : World} (hi : Inv k st m tm w) {i : Nat} {ls : List L} (h : getb st.bx i = some ls) : m.β i < w.heap.size := by
  obtain ⟨_, cs, e, h1, _⟩ := hi.box i _ h
  exact (Array.getElem?_eq_some_iff.1 h1).1

theorem K.low_lt {φ : World → Prop} {k : K φ} {st : St} {m : M} {tm : Array Value} {w : World} (hi : Inv k st m tm w) {b : Nat} (h : k.low b) : b < w.heap.size := Nat.lt_of_lt_of_le h.1 hi.size

/-- A larger world, the same state. -/
theorem Inv.ext {φ : World → Prop} {k : K φ} {st : St} {m : M} {tm : Array Value} {w w' : World} (hi : Inv k st m tm w) (hx : Ext w w') : Inv k st m tm w' where
  os := hx.os.trans hi.os
  tape := hx.tape.trans hi.tape
  output := hx.output.trans hi.output
  size := Nat.le_trans hi.size hx.size
  old b hb := (hx.block b (K.low_lt hi hb)).trans (hi.old b hb)
  n := hi.n
  nb := hi.nb
  env s := (hi.env s).imp fun _ _ h => hi.lr_ext hx (.refl m) h
  box i ls h := by
    obtain ⟨h0, cs, e, h1, h2⟩ := hi.box i ls h
    exact ⟨h0, cs, e, by rw [hx.block _ (Array.getElem?_eq_some_iff.1 h1).1]; exact h1, F2.imp (fun _ _ h => hi.lr_ext hx (.refl m) h) h2⟩
  blow := hi.blow
  binj := hi.binj
  tag t b a h1 h2 := by
    obtain ⟨g1, g2⟩ := hi.tag t b a h1 h2
    exact ⟨Nat.lt_of_lt_of_le g1 hx.size, g2⟩
  blk t b a h1 ho h2 := (hi.blk t b a h1 ho h2).same (hx.block b (hi.tag t b a h1 h2).1)
  inj := hi.inj
  fo := hi.fo
  bo := hi.bo
  bigb := hi.bigb
  nil0 := hi.nil0
  d0 := hi.d0
  big := hi.big
  sz := hi.sz

def M.newTag (m : M) (τ : Nat) (r : Option (Nat × Nat)) (lim : Nat) : M := { m with ρ := upd m.ρ τ r, D := upd m.D τ true, L := upd m.L τ lim }
theorem M.newTag_le (m : M) {τ : Nat} (h : m.D τ = false) (r : Option (Nat × Nat)) (lim : Nat) : m.Le (m.newTag τ r lim) :=
  ⟨fun t ht => by simp only [M.newTag, upd]; split <;> simp [ht], fun _ h => h, fun t ht => by
    simp only [M.newTag, upd]
    rw [if_neg (fun e => by subst e; rw [h] at ht; cases ht)], fun t ht => by
    simp only [M.newTag, upd]
    rw [if_neg (fun e => by subst e; rw [h] at ht; cases ht)], fun _ _ => rfl⟩

/-- A tag of one's own for a block that no tag and no box has. -/
theorem Inv.newTag {φ : World → Prop} {k : K φ} {st : St} {m : M} {tm : Array Value} {w : World} (hi : Inv k st m tm w) {τ : Nat} (hτ : τ < st.nx) (hD : m.D τ = false) (h100 : 100 ≤ τ) (r : Option (Nat × Nat)) (lim : Nat)
    (hr : ∀ b a, r = some (b, a) → b < w.heap.size ∧ ¬ k.low b ∧ ¬ m.blk b ∧ (∀ i ls, getb st.bx i = some ls → m.β i ≠ b) ∧ Blk w b lim) : Inv k st (m.newTag τ r lim) tm w := by
  have hle := m.newTag_le hD r lim
  have hkeep : ∀ l y, Lr m w l y → Lr (m.newTag τ r lim) w l y := fun l y h => hi.lr_ext (Ext.refl w) hle h
  have hnew : (m.newTag τ r lim).ρ τ = r := by simp [M.newTag, upd]
  have hold : ∀ t, t ≠ τ → (m.newTag τ r lim).ρ t = m.ρ t := fun t ht => by simp [M.newTag, upd, ht]
  have hoD : ∀ t, t ≠ τ → (m.newTag τ r lim).D t = m.D t := fun t ht => by simp [M.newTag, upd, ht]
  have hown : own τ := by unfold own; omega
  have hτ0 : τ ≠ 0 := by omega
  exact {
    os := hi.os, tape := hi.tape, output := hi.output, size := hi.size, old := hi.old
    n := fun t ht => by
      by_cases he : t = τ
      · subst he; exact hτ
      · rw [hoD t he] at ht; exact hi.n t ht
    nb := hi.nb
    env := fun s => (hi.env s).imp hkeep
    box := fun i ls h => by
      obtain ⟨h0, cs, e, h1, h2⟩ := hi.box i ls h
      exact ⟨h0, cs, e, h1, F2.imp hkeep h2⟩
    blow := hi.blow
    binj := hi.binj
    tag := fun t b a h1 h2 => by
      by_cases he : t = τ
      · subst he
        rw [hnew] at h2
        obtain ⟨g1, g2, g3, g4, _⟩ := hr b a h2
        exact ⟨g1, fun _ => g2, fun h => (h hown).elim, g4⟩
      · rw [hold t he] at h2
        rw [hoD t he] at h1
        exact hi.tag t b a h1 h2
    blk := fun t b a h1 ho h2 => by
      by_cases he : t = τ
      · subst he
        rw [hnew] at h2
        have := (hr b a h2).2.2.2.2
        simpa [M.newTag, upd] using this
      · rw [hold t he] at h2
        rw [hoD t he] at h1
        have := hi.blk t b a h1 ho h2
        simpa [M.newTag, upd, he] using this
    inj := fun t t' b a a' h1 h2 o1 o2 e1 e2 => by
      by_cases he : t = τ
      · by_cases he' : t' = τ
        · rw [he, he']
        · subst he
          rw [hnew] at e1
          rw [hold t' he'] at e2
          rw [hoD t' he'] at h2
          exact ((hr b a e1).2.2.1 ⟨t', a', h2, e2⟩).elim
      · by_cases he' : t' = τ
        · subst he'
          rw [hnew] at e2
          rw [hold t he] at e1
          rw [hoD t he] at h1
          exact ((hr b a' e2).2.2.1 ⟨t, a, h1, e1⟩).elim
        · rw [hold t he] at e1
          rw [hold t' he'] at e2
          rw [hoD t he] at h1
          rw [hoD t' he'] at h2
          exact hi.inj t t' b a a' h1 h2 o1 o2 e1 e2
    fo := fun t ht => by
      have hne : t ≠ τ := by omega
      rw [hold t hne, hoD t hne]
      have := hi.fo t ht
      simpa [M.newTag, upd, hne] using this
    bo := hi.bo
    bigb := hi.bigb
    nil0 := by rw [hold 0 (Ne.symm hτ0)]; exact hi.nil0
    d0 := by rw [hoD 0 (Ne.symm hτ0)]; exact hi.d0
    big := hi.big
    sz := hi.sz }

def M.newBox (m : M) (κ b : Nat) : M := { m with β := upd m.β κ b, B := upd m.B κ true }
theorem M.newBox_le (m : M) {κ : Nat} (h : m.B κ = false) (b : Nat) : m.Le (m.newBox κ b) :=
  ⟨fun _ h => h, fun t ht => by simp only [M.newBox, upd]; split <;> simp [ht], fun _ _ => rfl, fun _ _ => rfl, fun t ht => by
    simp only [M.newBox, upd]
    rw [if_neg (fun e => by subst e; rw [h] at ht; cases ht)]⟩

theorem getb_cons (s d : Nat) (v : List L) (e : List (Nat × List L)) : getb ((d, v) :: e) s = if s = d then some v else getb e s := by
  show (bif Nat.beq d s then some v else getb e s) = _
  by_cases h : s = d
  · subst h; simp
  · have : Nat.beq d s = false := by
      cases hb : Nat.beq d s with
      | false => rfl
      | true => exact absurd (Nat.eq_of_beq_eq_true hb).symm h
    simp [this, h]

theorem Inv.newBox {φ : World → Prop} {k : K φ} {st : St} {m : M} {tm : Array Value} {w : World} (hi : Inv k st m tm w) {κ : Nat} (hκ : 8 ≤ κ ∧ κ < st.nb) (hB : getb st.bx κ = none) (cs : Array Value) (e : Nat) {ls : List L} (hf : F2 (Lr m w) ls cs.toList) :
    Inv k { st with bx := (κ, ls) :: st.bx } (m.newBox κ w.heap.size) tm (w.alloc (.cells cs e)) := by
  have hx := Ext.alloc w (.cells cs e)
  have hBm : m.B κ = false := by rw [hi.nb, hB]; rfl
  have hle := m.newBox_le hBm w.heap.size
  have hkeep : ∀ l y, Lr m w l y → Lr (m.newBox κ w.heap.size) (w.alloc (.cells cs e)) l y := fun l y h => hi.lr_ext hx hle h
  have hnew : (m.newBox κ w.heap.size).β κ = w.heap.size := by simp [M.newBox, upd]
  have hold : ∀ i, i ≠ κ → (m.newBox κ w.heap.size).β i = m.β i := fun i hi => by simp [M.newBox, upd, hi]
  exact {
    os := hi.os, tape := hi.tape, output := hi.output
    size := Nat.le_trans hi.size hx.size
    old := fun b hb => (hx.block b (K.low_lt hi hb)).trans (hi.old b hb)
    n := hi.n
    nb := fun i => by
      show upd m.B κ true i = (getb ((κ, ls) :: st.bx) i).isSome
      rw [getb_cons]
      simp only [upd]
      split
      · rfl
      · exact hi.nb i
    env := fun s => (hi.env s).imp hkeep
    box := fun i ls' h => by
      change getb ((κ, ls) :: st.bx) i = some ls' at h
      rw [getb_cons] at h
      split at h
      · rename_i he
        subst he
        simp only [Option.some.injEq] at h
        subst h
        rw [hnew]
        exact ⟨hκ.2, cs, e, heap_alloc_new w _, F2.imp hkeep hf⟩
      · rename_i he
        obtain ⟨h0, cs', e', h1, h2⟩ := hi.box i ls' h
        rw [hold i he]
        exact ⟨h0, cs', e', by rw [hx.block _ (Array.getElem?_eq_some_iff.1 h1).1]; exact h1, F2.imp hkeep h2⟩
    blow := fun i ls' h => by
      change getb ((κ, ls) :: st.bx) i = some ls' at h
      rw [getb_cons] at h
      split at h
      · rename_i he
        subst he; rw [hnew]; intro hl; have := hl.1; have := hi.size; omega
      · rename_i he
        rw [hold i he]; exact hi.blow i ls' h
    binj := fun i j li lj h1 h2 e' => by
      change getb ((κ, ls) :: st.bx) i = some li at h1
      change getb ((κ, ls) :: st.bx) j = some lj at h2
      rw [getb_cons] at h1 h2
      by_cases he : i = κ <;> by_cases he' : j = κ
      · rw [he, he']
      · subst he; rw [if_neg he'] at h2; rw [hnew, hold j he'] at e'
        have := hi.box_lt h2; omega
      · subst he'; rw [if_neg he] at h1; rw [hnew, hold i he] at e'
        have := hi.box_lt h1; omega
      · rw [if_neg he] at h1; rw [if_neg he'] at h2
        rw [hold i he, hold j he'] at e'
        exact hi.binj i j li lj h1 h2 e'
    tag := fun t b a h1 h2 => by
      obtain ⟨g1, g2, g3, g4⟩ := hi.tag t b a h1 h2
      refine ⟨Nat.lt_of_lt_of_le g1 hx.size, g2, g3, fun i li h => ?_⟩
      change getb ((κ, ls) :: st.bx) i = some li at h
      rw [getb_cons] at h
      by_cases he : i = κ
      · subst he; rw [hnew]; omega
      · rw [if_neg he] at h
        rw [hold i he]; exact g4 i li h
    blk := fun t b a h1 ho h2 => (hi.blk t b a h1 ho h2).same (hx.block b (hi.tag t b a h1 h2).1)
    inj := hi.inj
    fo := hi.fo
    bo := fun i hi8 hb => by
      have hne : i ≠ κ := by omega
      rw [hold i hne]
      have hb' : m.B i = true := by simpa [M.newBox, upd, hne] using hb
      exact hi.bo i hi8 hb'
    bigb := hi.bigb
    nil0 := hi.nil0
    d0 := hi.d0
    big := hi.big
    sz := hi.sz }

/-- Room for tags and boxes. -/
theorem Inv.reserve {φ : World → Prop} {k : K φ} {st : St} {m : M} {tm : Array Value} {w : World} (hi : Inv k st m tm w) {nx nb : Nat} (h1 : st.nx ≤ nx) (h2 : st.nb ≤ nb) : Inv k { st with nx := nx, nb := nb } m tm w :=
  { hi with
    n := fun t h => Nat.lt_of_lt_of_le (hi.n t h) h1
    box := fun i ls h => by
      obtain ⟨h0, h3⟩ := hi.box i ls h
      exact ⟨Nat.lt_of_lt_of_le h0 h2, h3⟩
    big := Nat.le_trans hi.big h1
    bigb := Nat.le_trans hi.bigb h2 }
end Go.Proofs.YtlinhogbnmnhjaaDoor.X

namespace Go.Proofs.YtlinhogbnmnhjaaDoor.X
open Go Go.RowKit
set_option linter.unusedVariables false
set_option linter.unusedSimpArgs false
set_option linter.unusedSectionVars false

def mapC (f : L → L) (c : C) : C := (c.1, c.2.map f)
def mapA (f : L → L) : A → A
  | .c x => .c (mapC f x)
  | .tup xs => .tup (xs.map (mapC f))
  | .u => .u
def mapE (f : L → L) (e : Env) : Env := e.map fun p => (p.1, mapA f p.2)
def mapB (f : L → L) (b : List (Nat × List L)) : List (Nat × List L) := b.map fun p => (p.1, p.2.map f)

theorem get_mapE (f : L → L) : ∀ (e : Env) (s : Nat), get (mapE f e) s = mapA f (get e s)
  | [], _ => rfl
  | (d, v) :: e, s => by
    have : mapE f ((d, v) :: e) = (d, mapA f v) :: mapE f e := rfl
    rw [this, get_cons, get_cons, get_mapE f e s]
    split <;> rfl

theorem getb_mapB (f : L → L) : ∀ (e : List (Nat × List L)) (s : Nat), getb (mapB f e) s = (getb e s).map (·.map f)
  | [], _ => rfl
  | (d, v) :: e, s => by
    have : mapB f ((d, v) :: e) = (d, v.map f) :: mapB f e := rfl
    rw [this, getb_cons, getb_cons, getb_mapB f e s]
    split <;> rfl

theorem F2.mapl {α γ δ : Type} {R : α → γ → Prop} {S : δ → γ → Prop} {f : α → δ} (hrs : ∀ a b, R a b → S (f a) b) : ∀ {l : List α} {r : List γ}, F2 R l r → F2 S (l.map f) r
  | [], [], _ => trivial
  | _ :: _, _ :: _, h => ⟨hrs _ _ h.1, F2.mapl hrs h.2⟩

theorem Cr.mapf {m m' : M} {w w' : World} {f : L → L} (h : ∀ l y, Lr m w l y → Lr m' w' (f l) y) {c : C} {y : Value} (hc : Cr m w c y) : Cr m' w' (mapC f c) y := by
  obtain ⟨b, ls⟩ := c
  cases b with
  | true => obtain ⟨vs, rfl, hf⟩ := hc; exact ⟨vs, rfl, F2.mapl h hf⟩
  | false =>
    match ls, hc with
    | [l], hc => exact h _ _ hc

theorem Ar.mapf {m m' : M} {w w' : World} {f : L → L} (h : ∀ l y, Lr m w l y → Lr m' w' (f l) y) {x : A} {y : Value} (hc : Ar m w x y) : Ar m' w' (mapA f x) y := by
  cases x with
  | c x => exact Cr.mapf h hc
  | tup xs => obtain ⟨vs, rfl, hf⟩ := hc; exact ⟨vs, rfl, F2.mapl (f := mapC f) (fun _ _ hh => Cr.mapf h hh) hf⟩
  | u => trivial

/-- A store into the block of a tag of one's own. -/
theorem Inv.write {φ : World → Prop} {k : K φ} {st : St} {m m' : M} {tm : Array Value} {w w' : World} (hi : Inv k st m tm w) (f : L → L) {tg b a : Nat} (htg : m.D tg = true) (ho : own tg) (hρ : m.ρ tg = some (b, a))
    (hos : w'.os = w.os) (htape : w'.tape = w.tape) (hout : w'.output = w.output) (hsz : w'.heap.size = w.heap.size) (hoth : ∀ c, c ≠ b → w'.heap[c]? = w.heap[c]?)
    (hD : ∀ t, m'.D t = true → m.D t = true) (hB : m'.B = m.B) (hβ : m'.β = m.β) (hsub : ∀ t c d, m'.D t = true → m'.ρ t = some (c, d) → m.ρ t = some (c, d)) (hlim : m'.L = m.L) (hblk : ∀ n, Blk w b n → Blk w' b n) (hfo : ∀ t, t < 100 → m'.D t = m.D t ∧ m'.ρ t = m.ρ t) (h0 : m'.ρ 0 = none) (hd0 : m'.D 0 = true)
    (hL : ∀ l y, Lr m w l y → Lr m' w' (f l) y) :
    Inv k { st with env := mapE f st.env, bx := mapB f st.bx } m' tm w' := by
  obtain ⟨g1, g2, g3, g4⟩ := hi.tag tg b a htg hρ
  have hlow : ¬ k.low b := g2 ho
  have hb : ∀ i ls, getb (mapB f st.bx) i = some ls → ∃ ls0, getb st.bx i = some ls0 ∧ ls = ls0.map f := by
    intro i ls h
    rw [getb_mapB] at h
    obtain ⟨ls0, h1, h2⟩ := map_some' h
    exact ⟨ls0, h1, h2.symm⟩
  exact {
    os := hos.trans hi.os, tape := htape.trans hi.tape, output := hout.trans hi.output
    size := by rw [hsz]; exact hi.size
    old := fun c hc => by
      rw [hoth c (fun e => hlow (e ▸ hc))]; exact hi.old c hc
    n := fun t h => hi.n t (hD t h)
    nb := fun i => by
      show m'.B i = (getb (mapB f st.bx) i).isSome
      rw [hB, hi.nb, getb_mapB]; simp
    env := fun s => by
      show Ar m' w' (get (mapE f st.env) s) _
      rw [get_mapE]; exact (hi.env s).mapf hL
    box := fun i ls h => by
      obtain ⟨ls0, h1, rfl⟩ := hb i ls h
      obtain ⟨e0, cs, e, e1, e2⟩ := hi.box i ls0 h1
      rw [hβ]
      exact ⟨e0, cs, e, by rw [hoth _ (g4 i ls0 h1)]; exact e1, F2.mapl hL e2⟩
    blow := fun i ls h => by
      obtain ⟨ls0, h1, rfl⟩ := hb i ls h
      rw [hβ]; exact hi.blow i ls0 h1
    binj := fun i j li lj h1 h2 he => by
      obtain ⟨l1, e1, _⟩ := hb i li h1
      obtain ⟨l2, e2, _⟩ := hb j lj h2
      rw [hβ] at he
      exact hi.binj i j l1 l2 e1 e2 he
    tag := fun t c d h1 h2 => by
      obtain ⟨q1, q2, q3, q4⟩ := hi.tag t c d (hD t h1) (hsub t c d h1 h2)
      refine ⟨by rw [hsz]; exact q1, q2, q3, fun i li h => ?_⟩
      obtain ⟨l1, e1, _⟩ := hb i li h
      rw [hβ]; exact q4 i l1 e1
    blk := fun t c d h1 ho h2 => by
      rw [hlim]
      have := hi.blk t c d (hD t h1) ho (hsub t c d h1 h2)
      by_cases hcb : c = b
      · subst hcb; exact hblk _ this
      · exact this.same (hoth c hcb)
    inj := fun t t' c d d' h1 h2 o1 o2 e1 e2 => hi.inj t t' c d d' (hD t h1) (hD t' h2) o1 o2 (hsub _ _ _ h1 e1) (hsub _ _ _ h2 e2)
    fo := fun t ht => by
      obtain ⟨e1, e2, e3⟩ := hi.fo t ht
      obtain ⟨f1, f2⟩ := hfo t ht
      exact ⟨f1.trans e1, f2.trans e2, by rw [hlim]; exact e3⟩
    bo := fun i h8 hb => by rw [hβ]; exact hi.bo i h8 (by rw [← hB]; exact hb)
    bigb := hi.bigb
    nil0 := h0
    d0 := hd0
    big := hi.big
    sz := hi.sz }

/-- A store into a box. -/
theorem Inv.setBox {φ : World → Prop} {k : K φ} {st : St} {m : M} {tm : Array Value} {w : World} (hi : Inv k st m tm w) {i : Nat} {ls ls' : List L} (hls : getb st.bx i = some ls) {cs' : Array Value}
    (hf : F2 (Lr m w) ls' cs'.toList) : Inv k { st with bx := (i, ls') :: st.bx } m tm (w.setRow (m.β i) cs') := by
  obtain ⟨hnb, cs, e, hc, hf0⟩ := hi.box i ls hls
  have hlow := hi.blow i ls hls
  have hoth : ∀ c, c ≠ m.β i → (w.setRow (m.β i) cs').heap[c]? = w.heap[c]? := fun c hc => setRow_other w _ c cs' hc
  have hkeep : ∀ l y, Lr m w l y → Lr m (w.setRow (m.β i) cs') l y := fun l y h => h.keep (.refl m) fun b hb => by
    obtain ⟨t, a, h1, h2⟩ := hb
    exact hoth b (fun e => (hi.tag t b a h1 h2).2.2.2 i ls hls e.symm)
  have hb : ∀ j lj, getb ((i, ls') :: st.bx) j = some lj → (j = i ∧ lj = ls') ∨ (j ≠ i ∧ getb st.bx j = some lj) := by
    intro j lj h
    rw [getb_cons] at h
    split at h
    · rename_i he; simp only [Option.some.injEq] at h; exact .inl ⟨he, h.symm⟩
    · rename_i he; exact .inr ⟨he, h⟩
  have hex : ∀ j lj, getb ((i, ls') :: st.bx) j = some lj → ∃ l0, getb st.bx j = some l0 := by
    intro j lj h
    rcases hb j lj h with ⟨rfl, _⟩ | ⟨_, h⟩
    · exact ⟨ls, hls⟩
    · exact ⟨lj, h⟩
  exact {
    os := hi.os, tape := hi.tape, output := hi.output
    size := by rw [setRow_size]; exact hi.size
    old := fun c hc' => by rw [hoth c (fun e => hlow (e ▸ hc'))]; exact hi.old c hc'
    n := hi.n
    nb := fun j => by
      show m.B j = (getb ((i, ls') :: st.bx) j).isSome
      rw [hi.nb, getb_cons]
      split
      · rename_i he; subst he; simp [hls]
      · rfl
    env := fun s => (hi.env s).imp hkeep
    box := fun j lj h => by
      rcases hb j lj h with ⟨rfl, rfl⟩ | ⟨hne, h⟩
      · exact ⟨hnb, cs', e, setRow_heap w _ cs cs' e (0, 0) hc, F2.imp hkeep hf⟩
      · obtain ⟨q0, cs1, e1, h1, h2⟩ := hi.box j lj h
        exact ⟨q0, cs1, e1, by rw [hoth _ (fun e => hne (hi.binj j i lj ls h hls e))]; exact h1, F2.imp hkeep h2⟩
    blow := fun j lj h => by obtain ⟨l0, h0⟩ := hex j lj h; exact hi.blow j l0 h0
    binj := fun j j' lj lj' h h' he => by
      obtain ⟨l0, h0⟩ := hex j lj h
      obtain ⟨l1, h1⟩ := hex j' lj' h'
      exact hi.binj j j' l0 l1 h0 h1 he
    tag := fun t b a h1 h2 => by
      rw [setRow_size]
      obtain ⟨q1, q2, q3, q4⟩ := hi.tag t b a h1 h2
      exact ⟨q1, q2, q3, fun j lj h => by obtain ⟨l0, h0⟩ := hex j lj h; exact q4 j l0 h0⟩
    blk := fun t b a h1 ho h2 => (hi.blk t b a h1 ho h2).same (hoth b fun e => (hi.tag t b a h1 h2).2.2.2 i ls hls e.symm)
    inj := hi.inj
    fo := hi.fo
    bo := hi.bo
    bigb := hi.bigb
    nil0 := hi.nil0
    d0 := hi.d0
    big := hi.big
    sz := hi.sz }

theorem Rd.flat {w : World} {b z : Nat} : ∀ {xs : List (List Value)} {p : Nat}, Rd w b p z xs →
    xs.flatten.length = xs.length * z ∧ ∀ j v, xs.flatten[j]? = some v → v.oneCell' = true ∧ w.cell? ⟨b, p + j, none⟩ = some v
  | [], p, _ => by simp
  | e :: xs, p, h => by
    obtain ⟨h1, h2⟩ := h 0 e rfl
    have hr : Rd w b (p + z) z xs := by
      intro j e' he'
      obtain ⟨g1, g2⟩ := h (j + 1) e' (by simpa using he')
      refine ⟨g1, fun i x hx => ⟨(g2 i x hx).1, ?_⟩⟩
      have := (g2 i x hx).2
      rw [show p + z + j * z + i = p + (j + 1) * z + i from by rw [Nat.add_mul]; omega]
      exact this
    obtain ⟨f1, f2⟩ := Rd.flat hr
    refine ⟨by simp only [List.flatten_cons, List.length_append, List.length_cons, h1, f1, Nat.add_mul]; omega, fun j v hv => ?_⟩
    rw [List.flatten_cons] at hv
    by_cases hj : j < e.length
    · rw [List.getElem?_append_left hj] at hv
      have := h2 j v hv
      simpa using this
    · rw [List.getElem?_append_right (by omega)] at hv
      obtain ⟨g1, g2⟩ := f2 _ v hv
      refine ⟨g1, ?_⟩
      rw [show p + j = p + z + (j - e.length) from by omega]
      exact g2

theorem Rd.of_flat {w : World} {b z : Nat} : ∀ {xs : List (List Value)} {p : Nat}, (∀ e ∈ xs, e.length = z ∧ ∀ x ∈ e, x.oneCell' = true) →
    (∀ j v, xs.flatten[j]? = some v → w.cell? ⟨b, p + j, none⟩ = some v) → Rd w b p z xs
  | [], p, _, _ => by intro j e he; simp at he
  | e :: xs, p, h, hc => by
    obtain ⟨h1, h2⟩ := h e (by simp)
    intro j e' he'
    cases j with
    | zero =>
      simp at he'
      subst he'
      refine ⟨h1, fun i x hx => ⟨h2 x (List.mem_of_getElem? hx), ?_⟩⟩
      have hi : i < e.length := (List.getElem?_eq_some_iff.1 hx).1
      have := hc i x (by rw [List.flatten_cons, List.getElem?_append_left hi]; exact hx)
      simpa using this
    | succ j =>
      have hr : Rd w b (p + z) z xs := Rd.of_flat (fun e he => h e (by simp [he])) (fun j v hv => by
        have := hc (e.length + j) v (by rw [List.flatten_cons, List.getElem?_append_right (by omega)]; simpa using hv)
        rw [show p + z + j = p + (e.length + j) from by omega]
        exact this)
      obtain ⟨g1, g2⟩ := hr j e' (by simpa using he')
      refine ⟨g1, fun i x hx => ⟨(g2 i x hx).1, ?_⟩⟩
      have := (g2 i x hx).2
      rw [show p + (j + 1) * z + i = p + z + j * z + i from by rw [Nat.add_mul]; omega]
      exact this

theorem Rd.good {w : World} {b p z : Nat} {xs : List (List Value)} (h : Rd w b p z xs) : ∀ e ∈ xs, e.length = z ∧ ∀ x ∈ e, x.oneCell' = true := by
  intro e he
  obtain ⟨j, hj, rfl⟩ := List.getElem_of_mem he
  obtain ⟨h1, h2⟩ := h j _ (List.getElem?_eq_getElem hj)
  refine ⟨h1, fun x hx => ?_⟩
  obtain ⟨i, hi, rfl⟩ := List.getElem_of_mem hx
  exact (h2 i _ (List.getElem?_eq_getElem hi)).1
end Go.Proofs.YtlinhogbnmnhjaaDoor.X

namespace Go.Proofs.YtlinhogbnmnhjaaDoor.X
open Go Go.RowKit
set_option linter.unusedVariables false
set_option linter.unusedSimpArgs false
set_option linter.unusedSectionVars false

def Mono (P : Program) [HasPhi P] (o : Oper) (st : St) (τ κ : Nat) (st' : St) : Prop :=
  ∀ (k : K (HasPhi.Φ P)) m (a : Act) w, Inv k st m a.tmps w → (∀ j, j < 16 → m.D (τ + j) = false) → τ + 16 ≤ st.nx → 100 ≤ τ → getb st.bx κ = none → 8 ≤ κ ∧ κ < st.nb →
    ∀ (K' : Act → World → Prop) (Q : Exit → Act → World → Prop),
      (∀ a' w' m', Inv k st' m' a'.tmps w' → a'.defers = a.defers → (∀ t, t < τ ∨ τ + 16 ≤ t → m'.D t = true → m.D t = true) → K' a' w') → o.wp P a w K' Q

def St.putD (st : St) (d : Option Nat) (v : A) : Option St := match d with
  | some d => if Nat.blt d st.N then some { st with env := (d, v) :: st.env } else none
  | none => some st

theorem Inv.putD {φ : World → Prop} {k : K φ} {st st' : St} {m : M} {a : Act} {w : World} (hi : Inv k st m a.tmps w) {d : Option Nat} {v : A} {y : Value} (hv : Ar m w v y) (h : st.putD d v = some st') :
    Inv k st' m (a.put d y).tmps w := by
  cases d with
  | none => simp only [St.putD, Option.some.injEq] at h; subst h; exact hi
  | some d =>
    simp only [St.putD] at h
    split at h
    · rename_i hd
      simp only [Option.some.injEq] at h; subst h
      exact hi.put (by simpa [Nat.blt_eq] using hd) hv
    · cases h

theorem put_defers (a : Act) (d : Option Nat) (y : Value) : (a.put d y).defers = a.defers := by cases d <;> rfl

/-- An operation that yields a value. -/
theorem wp_value {P : Program} [HasPhi P] {o : Oper} {a : Act} {w w' : World} {y : Value} (h : (execOp a.eval o).run P w = .ok (.value y) w') {K' : Act → World → Prop} {Q : Exit → Act → World → Prop} (hk : K' (a.put o.dst y) w') : o.wp P a w K' Q := by
  unfold Oper.wp
  rw [h]
  exact hk

section
variable {P : Program} [HasPhi P] {T : Nat → TI}

theorem mono_pv (hT : TyOK P T) {st st' : St} {o : Oper} {p : Prop} {v : A} {τ κ : Nat} (h : pv T st o = some (p, v)) (hp : p) (h' : st.putD o.dst v = some st') : Mono P o st τ κ st' := by
  intro k m a w hi _ _ _ _ _ K' Q hK
  obtain ⟨r, hr, hv⟩ := pv_sound hT hi h hp
  exact wp_value hr (hK _ _ m (hi.putD hv h') (put_defers _ _ _) fun t _ h => h)

/-- A block that is new bears a tag of one's own. -/
theorem fresh {φ : World → Prop} {k : K φ} {st : St} {m : M} {tm : Array Value} {w w' : World} (hi : Inv k st m tm w) (hx : Ext w w') {τ : Nat} (hτ : τ < st.nx) (hD : m.D τ = false) (hown : 100 ≤ τ)
    {b0 : Nat} {cells : Array Value} {e : Nat} (hb : w'.heap[b0]? = some (.cells cells e (0, 0))) (hb0 : w.heap.size ≤ b0) {z c : Nat} {xs : List (List Value)}
    (hgood : ∀ e ∈ xs, e.length = z ∧ ∀ x ∈ e, x.oneCell' = true) (hcells : ∀ (j : Nat) (v : Value), xs.flatten[j]? = some v → cells[j]? = some v) (hc : xs.length ≤ c) (hcz : c * z ≤ cells.size) :
    Inv k st (m.newTag τ (some (b0, 0)) (c * z)) tm w' ∧ Lr (m.newTag τ (some (b0, 0)) (c * z)) w' (.sl z τ 0 xs) (.slice (some ⟨b0, 0, none⟩) xs.length c) := by
  have hlt : b0 < w'.heap.size := (Array.getElem?_eq_some_iff.1 hb).1
  refine ⟨(hi.ext hx).newTag hτ hD hown _ _ ?_, ?_⟩
  · intro b a h
    simp only [Option.some.injEq, Prod.mk.injEq] at h
    obtain ⟨rfl, rfl⟩ := h
    refine ⟨hlt, fun hl => ?_, fun hbk => ?_, fun i ls hls he => ?_, cells, e, hb, hcz⟩
    · have := K.low_lt hi hl; omega
    · have := hi.blk_lt hbk; omega
    · have := hi.box_lt hls; omega
  · refine ⟨by simp [M.newTag, upd], .inr ⟨b0, 0, c, 0, by simp [M.newTag, upd], rfl, by simp, hc, ?_, by simp [M.newTag, upd]⟩⟩
    refine Rd.of_flat hgood fun j v hv => ?_
    simp [World.cell?, hb, hcells j v hv]

def valsL : List L → Option (List Value)
  | [] => some []
  | .v x :: r => (valsL r).map (x :: ·)
  | _ => none
def bsl (z : Nat) : Nat → List (Nat × A) → Option (List (List Value))
  | _, [] => some []
  | i, (j, .c (_, ls)) :: r => if i = j ∧ ls.length = z then match valsL ls, bsl z (i + 1) r with
    | some v, some vs => some (v :: vs)
    | _, _ => none
    else none
  | _, _ => none

theorem valsL_sound {m : M} {w : World} : ∀ {ls : List L} {vs ys : List Value}, valsL ls = some vs → F2 (Lr m w) ls ys → ys = vs ∧ ∀ x ∈ vs, x.oneCell' = true
  | [], vs, [], h, _ => by simp only [valsL, Option.some.injEq] at h; subst h; simp
  | .v x :: r, vs, y :: ys, h, hf => by
    simp only [valsL] at h
    obtain ⟨vs', h1, rfl⟩ := map_some' h
    obtain ⟨rfl, h2⟩ := valsL_sound h1 hf.2
    refine ⟨by rw [hf.1.1], fun u hu => ?_⟩
    rcases List.mem_cons.1 hu with rfl | hu
    · exact hf.1.2
    · exact h2 u hu
  | .sl .. :: _, _, _, h, _ => by simp [valsL] at h
  | .pt .. :: _, _, _, h, _ => by simp [valsL] at h
  | .ep .. :: _, _, _, h, _ => by simp [valsL] at h
  | .x :: _, _, _, h, _ => by simp [valsL] at h

/-- A slice literal: the parts fill the row one behind the other. -/
theorem bsl_fill {m : M} {w : World} (z len : Nat) : ∀ (ps : List (Nat × A)) (qs : List (Nat × Value)) (i : Nat) (cs : Array Value) (vs : List (List Value)),
    F2 (fun x y => x.1 = y.1 ∧ Ar m w x.2 y.2) ps qs → bsl z i ps = some vs → i * z + ps.length * z = cs.size →
    ∃ es, Instr.fill (fun i => some (i * z, z)) cs qs = some es ∧ es.toList = cs.toList.take (i * z) ++ vs.flatten ∧ vs.length = ps.length ∧ ∀ e ∈ vs, e.length = z ∧ ∀ x ∈ e, x.oneCell' = true
  | [], [], i, cs, vs, _, h, hs => by
    simp only [bsl, Option.some.injEq] at h; subst h
    simp only [List.length_nil, Nat.zero_mul, Nat.add_zero] at hs
    refine ⟨cs, rfl, ?_, rfl, by simp⟩
    rw [hs, ← Array.length_toList, List.take_length]; simp
  | (j, x) :: ps, (j', v) :: qs, i, cs, vs, ⟨⟨hj, hx⟩, hr⟩, h, hs => by
    simp only at hj; subst hj
    cases x with
    | tup _ => simp [bsl] at h
    | u => simp [bsl] at h
    | c x =>
      obtain ⟨b, ls⟩ := x
      simp only [bsl] at h
      split at h
      · rename_i hc
        obtain ⟨rfl, hl⟩ := hc
        split at h
        · rename_i v1 vs1 h1 h2
          simp only [Option.some.injEq] at h; subst h
          have hcells := Cr.cells (b := b) (ls := ls) hx
          obtain ⟨hv1, hv2⟩ := valsL_sound h1 hcells
          have hlen := F2.len hcells
          simp only [List.length_cons, Nat.add_mul] at hs
          have hsz : v.cells.size = z := by have := hlen; simp only [Array.length_toList] at this; omega
          have hset : (v.cells.zipIdx.foldl (fun (cs : Array Value) (x : Value × Nat) => cs.setIfInBounds (i * z + x.2) x.1) cs).toList = cs.toList.take (i * z) ++ v1 ++ cs.toList.drop (i * z + z) := by
            have := setRange (i * z) v.cells.toList 0 cs (by simp [hsz]; omega)
            rw [← Array.foldl_toList, Array.toList_zipIdx]
            rw [hv1] at this ⊢
            have hl1 : v1.length = z := by rw [← hv1]; simpa using hsz
            simpa [hl1] using this
          have hsize2 : (v.cells.zipIdx.foldl (fun (cs : Array Value) (x : Value × Nat) => cs.setIfInBounds (i * z + x.2) x.1) cs).size = cs.size := by
            have hl1 : v1.length = z := by rw [← hv1]; simpa using hsz
            have := congrArg List.length hset
            simp only [Array.length_toList, List.length_append, List.length_take, List.length_drop, hl1] at this
            omega
          obtain ⟨es, g1, g2, g3, g4⟩ := bsl_fill z len ps qs (i + 1) _ vs1 hr h2 (by rw [hsize2, Nat.add_mul]; omega)
          refine ⟨es, ?_, ?_, by simp [g3], ?_⟩
          · unfold Instr.fill
            simp only
            rw [if_neg (by simp [hsz]; omega)]
            exact g1
          · rw [g2, hset]
            have hl1 : v1.length = z := by rw [← hv1]; simpa using hsz
            have h3 : (i + 1) * z = (cs.toList.take (i * z) ++ v1).length := by simp [hl1, Nat.add_mul]; omega
            rw [h3, List.take_left, List.flatten_cons, List.append_assoc]
          · intro e he
            rcases List.mem_cons.1 he with rfl | he
            · exact ⟨by rw [← hv1]; simpa using hsz, hv2⟩
            · exact g4 e he
        · cases h
      · cases h
end
end Go.Proofs.YtlinhogbnmnhjaaDoor.X

namespace Go.Proofs.YtlinhogbnmnhjaaDoor.X
open Go Go.RowKit
set_option linter.unusedVariables false
set_option linter.unusedSimpArgs false
set_option linter.unusedSectionVars false

section
variable {P : Program} [HasPhi P] {T : Nat → TI}

theorem Ar_l {m : M} {w : World} {l : L} {y : Value} (h : Lr m w l y) : Ar m w (.c (false, [l])) y := h

theorem newBox_ptr (m : M) (κ b : Nat) (w : World) : Ar (m.newBox κ b) w (.c (false, [.pt κ 0])) (.pointer (some ⟨b, 0, none⟩)) :=
  ⟨by simp [M.newBox, upd], by simp [M.newBox, upd]⟩

theorem mono_alloc (hT : TyOK P T) {st st' : St} {o : Oper} {t τ κ : Nat} (ho : o.op = .alloc t) (ht : hasT T t = true)
    (h' : ({ st with bx := (κ, (T t).zr) :: st.bx } : St).putD o.dst (.c (false, [.pt κ 0])) = some st') : Mono P o st τ κ st' := by
  intro k m a w hi _ _ _ hκ hκ2 K' Q hK
  obtain ⟨⟨f, hf, hsz, _, zv, hz1, hz2⟩, hz3, _⟩ := hT.of ht
  have hzr : F2 (Lr m w) (T t).zr zv.cells.toList := by rw [hz2]; exact zr_ok hi.nil0 hi.d0 hz3
  have h2 := hi.newBox hκ2 hκ zv.cells t hzr
  refine wp_value (w' := w.alloc (.cells zv.cells t)) (y := .pointer (some ⟨w.heap.size, 0, none⟩)) ?_ (hK _ _ _ (h2.putD (newBox_ptr _ _ _ _) h') (put_defers _ _ _) fun t _ h => h)
  simp [execOp, ho, Instr.alloc, zeroValue, typeInfo, hf, hz1, newVar, newRow]

theorem mono_box (hT : TyOK P T) {st st' : St} {o : Oper} {t τ κ : Nat} {x : Operand} {c : C} (ho : o.op = .box t x) (hx : opnd T st 0 x = .c c)
    (h' : ({ st with bx := (κ, c.2) :: st.bx } : St).putD o.dst (.c (false, [.pt κ 0])) = some st') : Mono P o st τ κ st' := by
  intro k m a w hi _ _ _ hκ hκ2 K' Q hK
  have hv := opnd_inv hT hi 0 x
  rw [hx] at hv
  have h2 := hi.newBox hκ2 hκ (a.eval x).cells t (Cr.cells (b := c.1) (ls := c.2) hv)
  refine wp_value (w' := w.alloc (.cells (a.eval x).cells t)) (y := .pointer (some ⟨w.heap.size, 0, none⟩)) ?_ (hK _ _ _ (h2.putD (newBox_ptr _ _ _ _) h') (put_defers _ _ _) fun t _ h => h)
  simp [execOp, ho, Instr.box, newVar, newRow]

theorem newTag_D (m : M) (τ : Nat) (r : Option (Nat × Nat)) (lim : Nat) (t : Nat) (h : t < τ ∨ τ + 16 ≤ t) (hd : (m.newTag τ r lim).D t = true) : m.D t = true := by
  simp only [M.newTag, upd] at hd
  split at hd
  · omega
  · exact hd

theorem mono_lit (hT : TyOK P T) {st st' : St} {o : Oper} {t e len τ κ : Nat} {ps : Array (Nat × Operand)} {xs : List (List Value)} (ho : o.op = .buildSlice t len ps) (ht : (T t).d = .sl e) (he : hasT T e = true)
    (hxs : bsl (T e).sz 0 (ps.toList.map fun q => (q.1, opnd T st e q.2)) = some xs) (hlen : ps.toList.length = len) (hsm : len * (T e).sz ≤ 16777216)
    (h' : st.putD o.dst (.c (false, [.sl (T e).sz τ 0 xs])) = some st') : Mono P o st τ κ st' := by
  intro k m a w hi hD hτ hτ5 hκ hκ2 K' Q hK
  have hty := tyD hT (t := t) (by simp [ht]); rw [ht] at hty
  obtain ⟨⟨f, hf, hsz, _, zv, hz1, hz2⟩, hz3, _⟩ := hT.of he
  have hqs : F2 (fun (x : Nat × A) (y : Nat × Value) => x.1 = y.1 ∧ Ar m w x.2 y.2) (ps.toList.map fun q => (q.1, opnd T st e q.2)) (ps.toList.map fun q => (q.1, a.eval q.2)) := by
    have : ∀ l : List (Nat × Operand), F2 (fun (x : Nat × A) (y : Nat × Value) => x.1 = y.1 ∧ Ar m w x.2 y.2) (l.map fun q => (q.1, opnd T st e q.2)) (l.map fun q => (q.1, a.eval q.2)) := by
      intro l
      induction l with
      | nil => trivial
      | cons q l ih => exact ⟨⟨rfl, opnd_inv hT hi _ _⟩, ih⟩
    exact this _
  let zc : Array Value := if len * (T e).sz = 0 then #[] else zv.cells
  obtain ⟨es, g1, g2, g3, g4⟩ := bsl_fill (T e).sz len _ _ 0 ((Array.range (len * (T e).sz)).map (zc[· % zc.size]!)) xs hqs hxs (by simp; rw [← hlen]; simp)
  have hes : es.toList = xs.flatten := by simpa using g2
  have hxl : xs.length = len := by rw [g3, ← hlen]; simp
  have hx := Ext.alloc w (.cells es e)
  have hfl : es.size = len * (T e).sz := by
    rw [← Array.length_toList, hes, ← hxl]
    have : ∀ l : List (List Value), (∀ e' ∈ l, e'.length = (T e).sz) → l.flatten.length = l.length * (T e).sz := by
      intro l
      induction l with
      | nil => simp
      | cons q l ih => intro h; simp [h q (by simp), ih (fun e he => h e (by simp [he])), Nat.add_mul]; omega
    exact this xs fun e he => (g4 e he).1
  obtain ⟨h1, h2⟩ := fresh hi hx (τ := τ) (by omega) (by simpa using hD 0 (by omega)) (by omega) (heap_alloc_new w _) (Nat.le_refl _) (c := len) g4
    (fun j v hv => by rw [← hes] at hv; simpa using hv) (by omega) (by omega)
  refine wp_value (w' := w.alloc (.cells es e)) (y := .slice (some ⟨w.heap.size, 0, none⟩) xs.length len) ?_ (hK _ _ _ (h1.putD (Ar_l h2) h') (put_defers _ _ _) (newTag_D m τ _ _))
  have g1' : Instr.fill (fun i => some (i * (T e).sz, (T e).sz)) ((Array.range (len * (T e).sz)).map (zc[· % zc.size]!)) (List.map (fun x => (x.fst, a.eval x.snd)) ps.toList) = some es := g1
  simp only [zc] at g1'
  have hsm' : ¬ (16777216 < len * (T e).sz) := by omega
  by_cases h0 : len * (T e).sz = 0
  · rw [if_pos h0, h0] at g1'
    have hr0 : (Array.range 0).map (fun x => (#[] : Array Value)[x % (#[] : Array Value).size]!) = #[] := by simp [Array.range_zero']
    rw [hr0] at g1'
    simp only [execOp, ho, Instr.buildSlice, run_underlying hty, run_sizeOf hT w he, Sem.run_bind, Result.andThen_ok, Sem.run_pure]
    simp only [h0, hr0, if_true, Sem.run_pure, Result.andThen_ok, Array.toList_map, g1', newRow, Sem.run_bind, Nat.reducePow, Nat.not_lt_zero, if_false]
    simp [run_newObj_alloc, hxl]
  · rw [if_neg h0] at g1'
    simp [execOp, ho, Instr.buildSlice, run_underlying hty, run_sizeOf hT w he, hsm', h0, zeroValue, typeInfo, hf, hz1, g1', newRow, hxl]

theorem mono_make (hT : TyOK P T) {st st' : St} {o : Oper} {t e τ κ : Nat} {l c : Operand} {kl kc : IntKind} {n n' : Int} {zs : List Value} (ho : o.op = .makeSlice t l c) (ht : (T t).d = .sl e) (he : hasT T e = true)
    (hl : opnd T st 0 l = .c (false, [.v (.int kl n)])) (hc : opnd T st 0 c = .c (false, [.v (.int kc n')])) (hz : valsL (T e).zr = some zs)
    (hp : 0 ≤ n ∧ n' = n ∧ ((T e).by' : Int) * n ≤ 140737488355328 ∧ n ≤ 9223372036854775807)
    (h' : st.putD o.dst (.c (false, [.sl (T e).sz τ 0 (List.replicate n.toNat zs)])) = some st') (hzl : zs.length = (T e).sz) : Mono P o st τ κ st' := by
  intro k m a w hi hD hτ hτ5 hκ hκ2 K' Q hK
  have hty := tyD hT (t := t) (by simp [ht]); rw [ht] at hty
  obtain ⟨⟨f, hf, hsz, hby, zv, hz1, hz2⟩, hz3, _⟩ := hT.of he
  have hvl := opnd_inv hT hi 0 l; rw [hl] at hvl
  have hvc := opnd_inv hT hi 0 c; rw [hc] at hvc
  obtain ⟨h0, rfl, hb, h63⟩ := hp
  have hzr : F2 (Lr m w) (T e).zr zv.cells.toList := by rw [hz2]; exact zr_ok hi.nil0 hi.d0 hz3
  obtain ⟨hzz, hone⟩ := valsL_sound hz hzr
  have hr := run_make (P := P) w t e f zv hty hf hz1 kl kc n' n' h0 (by omega) (by rw [hby]; omega) h63
  rw [hsz] at hr
  have hcells : (madeCells zv.cells (n'.toNat * (T e).sz)).toList = (List.replicate n'.toNat zs).flatten := by
    have hsize : zv.cells.size = (T e).sz := by rw [← Array.length_toList, hzz, hzl]
    apply List.ext_getElem?
    intro i
    have hfl : ∀ (q i : Nat), (List.replicate q zs).flatten[i]? = if i < q * (T e).sz then zs[i % (T e).sz]? else none := by
      intro q
      induction q with
      | zero => intro i; simp
      | succ q ih =>
        intro i
        rw [List.replicate_succ, List.flatten_cons]
        by_cases hi : i < zs.length
        · rw [List.getElem?_append_left hi, if_pos (by rw [Nat.add_mul]; omega), Nat.mod_eq_of_lt (by omega)]
        · rw [List.getElem?_append_right (by omega), ih, hzl]
          have : i % (T e).sz = (i - (T e).sz) % (T e).sz := by rw [Nat.mod_eq_sub_mod (by omega)]
          rw [this]
          by_cases hq : i - (T e).sz < q * (T e).sz
          · rw [if_pos hq, if_pos (by rw [Nat.add_mul]; omega)]
          · rw [if_neg hq, if_neg (by rw [Nat.add_mul, Nat.one_mul]; omega)]
    rw [hfl]
    simp only [madeCells]
    by_cases hi : i < n'.toNat * (T e).sz
    · have hpos : 0 < (T e).sz := by
        rcases Nat.eq_zero_or_pos (T e).sz with h | h
        · rw [h] at hi; omega
        · exact h
      have hm : i % (T e).sz < (T e).sz := Nat.mod_lt _ hpos
      have hlt : i % (T e).sz < zv.cells.size := by omega
      have hg : zs[i % (T e).sz]? = some zv.cells[i % (T e).sz] := by rw [← hzz]; simp [hlt]
      rw [if_pos hi, hg]
      simp [hi, hsize]
      rw [getElem!_pos zv.cells _ hlt]
    · rw [if_neg hi]; simp; omega
  have hx := Ext.alloc w (.cells (madeCells zv.cells (n'.toNat * (T e).sz)) e)
  obtain ⟨h1, h2⟩ := fresh hi hx (τ := τ) (by omega) (by simpa using hD 0 (by omega)) (by omega) (heap_alloc_new w _) (Nat.le_refl _) (c := n'.toNat) (z := (T e).sz) (xs := List.replicate n'.toNat zs)
    (fun e he => by obtain ⟨_, rfl⟩ := List.mem_replicate.1 he; exact ⟨hzl, hone⟩) (fun j v hv => by rw [← hcells] at hv; simpa using hv) (by simp) (by simp [size_madeCells])
  refine wp_value (w' := w.alloc (.cells (madeCells zv.cells (n'.toNat * (T e).sz)) e)) (y := .slice (some ⟨w.heap.size, 0, none⟩) (List.replicate n'.toNat zs).length n'.toNat) ?_ (hK _ _ _ (h1.putD (Ar_l h2) h') (put_defers _ _ _) (newTag_D m τ _ _))
  simp [execOp, ho, hvl.1, hvc.1, hr]
end
end Go.Proofs.YtlinhogbnmnhjaaDoor.X

namespace Go.Proofs.YtlinhogbnmnhjaaDoor.X
open Go Go.RowKit
set_option linter.unusedVariables false
set_option linter.unusedSimpArgs false
set_option linter.unusedSectionVars false

def killL (t : Nat) : L → L
  | .sl z t' o xs => bif Nat.beq t t' then .x else .sl z t' o xs
  | .ep z t' j o e => bif Nat.beq t t' then .x else .ep z t' j o e
  | .v x => .v x
  | .pt i o => .pt i o
  | .x => .x
def killSt (t : Nat) (st : St) : St := bif Nat.beq t 0 then st else { st with env := mapE (killL t) st.env, bx := mapB (killL t) st.bx }

def tagL : L → Option Nat
  | .sl _ t _ _ => some t
  | .ep _ t _ _ _ => some t
  | _ => none

theorem Lr.keep1 {m m' : M} {w w' : World} {l : L} {y : Value} (hB : m'.B = m.B) (hβ : m'.β = m.β) (hlim : m'.L = m.L)
    (ht : ∀ t, tagL l = some t → m.D t = true → m'.D t = true ∧ m'.ρ t = m.ρ t ∧ ∀ b a, m.ρ t = some (b, a) → SameB w w' b) (h : Lr m w l y) : Lr m' w' l y := by
  cases l with
  | v x => exact h
  | x => exact h
  | sl z t o xs =>
    obtain ⟨hd, h⟩ := h
    obtain ⟨h1, h2, h3⟩ := ht t rfl hd
    refine ⟨h1, ?_⟩
    rcases h with ⟨g1, g2, g3⟩ | ⟨b, a, c, p, g1, g2, g3, g4, g5, g6⟩
    · exact .inl ⟨by rw [h2]; exact g1, g2, g3⟩
    · have hb := h3 b a g1
      exact .inr ⟨b, a, c, p, by rw [h2]; exact g1, g2, g3, g4, g5.same hb, by rw [hlim]; exact g6⟩
  | pt i o => exact ⟨by rw [hB]; exact h.1, by rw [hβ]; exact h.2⟩
  | ep z t j o e =>
    obtain ⟨hd, b, a, g1, g2, g3⟩ := h
    obtain ⟨h1, h2, h3⟩ := ht t rfl hd
    have hb := h3 b a g1
    exact ⟨h1, b, a, by rw [h2]; exact g1, g2, g3.same hb⟩

theorem beq_false {a b : Nat} (h : a ≠ b) : Nat.beq a b = false := by
  cases hb : Nat.beq a b with
  | false => rfl
  | true => exact absurd (Nat.eq_of_beq_eq_true hb) h

theorem Lr.kill {m m' : M} {w w' : World} {l : L} {y : Value} {tg : Nat} (hB : m'.B = m.B) (hβ : m'.β = m.β) (hlim : m'.L = m.L)
    (ht : ∀ t, t ≠ tg → m.D t = true → m'.D t = true ∧ m'.ρ t = m.ρ t ∧ ∀ b a, m.ρ t = some (b, a) → SameB w w' b) (h : Lr m w l y) : Lr m' w' (killL tg l) y := by
  cases l with
  | sl z t o xs =>
    by_cases he : tg = t
    · subst he; simp only [killL, Nat.beq_refl, cond_true]; exact Lr.one h
    · simp only [killL, beq_false he, cond_false]
      exact h.keep1 hB hβ hlim fun t' e hd => by cases e; exact ht _ (Ne.symm he) hd
  | ep z t j o e =>
    by_cases he : tg = t
    · subst he; simp only [killL, Nat.beq_refl, cond_true]; exact Lr.one h
    · simp only [killL, beq_false he, cond_false]
      exact h.keep1 hB hβ hlim fun t' e hd => by cases e; exact ht _ (Ne.symm he) hd
  | v x => exact h.keep1 hB hβ hlim fun t e => by cases e
  | x => exact h.keep1 hB hβ hlim fun t e => by cases e
  | pt i o => exact h.keep1 hB hβ hlim fun t e => by cases e

/-- Leaves may be forgotten. -/
theorem Inv.forget {φ : World → Prop} {k : K φ} {st : St} {m : M} {tm : Array Value} {w : World} (hi : Inv k st m tm w) (f : L → L) (hL : ∀ l y, Lr m w l y → Lr m w (f l) y) :
    Inv k { st with env := mapE f st.env, bx := mapB f st.bx } m tm w := by
  have hb : ∀ i ls, getb (mapB f st.bx) i = some ls → ∃ ls0, getb st.bx i = some ls0 ∧ ls = ls0.map f := by
    intro i ls h
    rw [getb_mapB] at h
    obtain ⟨ls0, h1, h2⟩ := map_some' h
    exact ⟨ls0, h1, h2.symm⟩
  exact { hi with
    nb := fun i => by
      show m.B i = (getb (mapB f st.bx) i).isSome
      rw [hi.nb, getb_mapB]; simp
    env := fun s => by
      show Ar m w (get (mapE f st.env) s) _
      rw [get_mapE]; exact (hi.env s).mapf hL
    box := fun i ls h => by
      obtain ⟨ls0, h1, rfl⟩ := hb i ls h
      obtain ⟨e0, cs, e, e1, e2⟩ := hi.box i ls0 h1
      exact ⟨e0, cs, e, e1, F2.mapl hL e2⟩
    blow := fun i ls h => by
      obtain ⟨ls0, h1, rfl⟩ := hb i ls h
      exact hi.blow i ls0 h1
    binj := fun i j li lj h1 h2 he => by
      obtain ⟨l1, e1, _⟩ := hb i li h1
      obtain ⟨l2, e2, _⟩ := hb j lj h2
      exact hi.binj i j l1 l2 e1 e2 he
    tag := fun t c d h1 h2 => by
      obtain ⟨q1, q2, q3, q4⟩ := hi.tag t c d h1 h2
      refine ⟨q1, q2, q3, fun i li h => ?_⟩
      obtain ⟨l1, e1, _⟩ := hb i li h
      exact q4 i l1 e1 }

theorem Inv.killSt {φ : World → Prop} {k : K φ} {st : St} {m : M} {tm : Array Value} {w : World} (hi : Inv k st m tm w) (t : Nat) : Inv k (killSt t st) m tm w := by
  unfold X.killSt
  by_cases h : t = 0
  · subst h; exact hi
  · rw [beq_false h]
    exact hi.forget _ fun l y hl => hl.kill rfl rfl rfl fun t _ hd => ⟨hd, rfl, fun _ _ _ => rfl⟩

theorem killSt_nx (t : Nat) (st : St) : (killSt t st).nx = st.nx ∧ (killSt t st).nb = st.nb := by
  unfold killSt; cases Nat.beq t 0 <;> exact ⟨rfl, rfl⟩

section
variable {P : Program} [HasPhi P] {T : Nat → TI}

theorem first_cells {m : M} {w : World} {z t o : Nat} {ys : List (List Value)} {y : Value} (h : Lr m w (.sl z t o ys) y) {w' : World} (hx : ∀ b a, m.ρ t = some (b, a) → SameB w w' b) :
    (Builtin.firstCells z ys.length y).run P w' = .ok ys.flatten.toArray w' := by
  obtain ⟨_, h⟩ := h
  rcases h with ⟨_, ⟨ad, rfl⟩, rfl⟩ | ⟨b, a, c, p, h1, rfl, h3, h4, h5, _⟩
  · cases ad <;> simp [Builtin.firstCells, loadCells, loadCellsFrom]
  · by_cases hn : ys = []
    · subst hn
      simp [Builtin.firstCells, loadCells, loadCellsFrom]
    · have hlen : 0 < ys.length := List.length_pos_iff.2 hn
      have hp := h3 (by omega)
      subst hp
      obtain ⟨f1, f2⟩ := (h5.same (hx b a h1)).flat
      exact run_firstCells_some (P := P) w' z ys.length ⟨b, a + o * z, none⟩ _ c ys.flatten f1 (fun j v hv => by rw [addAt]; exact (f2 j v hv).2)

theorem run_append_in {w : World} {t ty e e' : Nat} {i : TypeInfo} (ht : P.underlying t = some (.slice e)) (hi : P.info? e = some i) (b p n c m c2 : Nat) (cs : Array Value) (hb : w.heap[b]? = some (.cells cs e' (0, 0)))
    (a2 : Option Addr) (news : List Value) (hf : (Builtin.firstCells i.size m (.slice a2 m c2)).run P w = .ok news.toArray w) (hroom : n + m ≤ c) (hfit : p + n * i.size + news.length ≤ cs.size) (h1 : ∀ v ∈ news, v.oneCell' = true) :
    (Builtin.append_ #[t, t] ty #[.slice (some ⟨b, p, none⟩) n c, .slice a2 m c2]).run P w =
      .ok (.slice (some ⟨b, p, none⟩) (n + m) c) (w.setRow b (cs.toList.take (p + n * i.size) ++ news ++ cs.toList.drop (p + n * i.size + news.length)).toArray) := by
  have hst := run_storeCells_at P b (p + n * i.size) e' news 0 cs w hb (by simpa using hfit) h1
  simp only [Nat.add_zero] at hst
  simp [Builtin.append_, run_underlying ht, sizeOf, typeInfo, hi, Builtin.lenOf, hroom, hf, addAt, hst]
end
end Go.Proofs.YtlinhogbnmnhjaaDoor.X

namespace Go.Proofs.YtlinhogbnmnhjaaDoor.X
open Go Go.RowKit
set_option linter.unusedVariables false
set_option linter.unusedSimpArgs false
set_option linter.unusedSectionVars false

theorem inplace_cells (cs : Array Value) (q base : Nat) (olds news : List Value) (h : base + olds.length = q) (hfit : q + news.length ≤ cs.size) (hold : ∀ (j : Nat) (v : Value), olds[j]? = some v → cs[base + j]? = some v) :
    (cs.toList.take q ++ news ++ cs.toList.drop (q + news.length)).toArray.size = cs.size ∧
      ∀ (j : Nat) (v : Value), (olds ++ news)[j]? = some v → (cs.toList.take q ++ news ++ cs.toList.drop (q + news.length)).toArray[base + j]? = some v := by
  refine ⟨by simp; omega, fun j v hv => ?_⟩
  rw [List.getElem?_toArray]
  by_cases hj : j < olds.length
  · rw [List.getElem?_append_left hj] at hv
    rw [List.append_assoc, List.getElem?_append_left (by simp; omega), List.getElem?_take, if_pos (by omega)]
    simpa using hold j v hv
  · rw [List.getElem?_append_right (by omega)] at hv
    have hlt := (List.getElem?_eq_some_iff.1 hv).1
    rw [List.append_assoc, List.getElem?_append_right (by simp; omega), List.getElem?_append_left (by simp; omega), ← hv]
    congr 1
    simp
    omega

section
variable {P : Program} [HasPhi P] {T : Nat → TI}

/-- What append leaves: the new row under a tag of its own, in a world where nothing else has turned. -/
theorem append_core (hT : TyOK P T) {φ : World → Prop} {k : K φ} {st : St} {m : M} {a : Act} {w : World} (hi : Inv k st m a.tmps w) {t e ty tg tg' o1 o2 τ : Nat} {xs ys : List (List Value)} {y1 y2 : Value}
    (ht : (T t).d = .sl e) (he : hasT T e = true) (hz0 : 0 < (T e).sz) (hby : 0 < (T e).by') (hzl : (T e).zr.length = (T e).sz)
    (h1 : Lr m w (.sl (T e).sz tg o1 xs) y1) (h2 : Lr m w (.sl (T e).sz tg' o2 ys) y2) (hown : tg = 0 ∨ 100 ≤ tg)
    (hp : (xs.length + ys.length) * (T e).by' ≤ 140737488355328) (hτ : τ < st.nx) (hD : m.D τ = false) (hτ5 : 100 ≤ τ) :
    ∃ w' m' y, (Builtin.append_ #[t, t] ty #[y1, y2]).run P w = .ok y w' ∧ Inv k (killSt tg st) m' a.tmps w' ∧ Lr m' w' (.sl (T e).sz τ 0 (xs ++ ys)) y ∧ ∀ t, t ≠ τ → m'.D t = true → m.D t = true := by
  have hty := tyD hT (t := t) (by simp [ht]); rw [ht] at hty
  have hty' : P.underlying t = some (.slice e) := hty
  obtain ⟨⟨f, hf, hsz, hbyf, zv, hz1, hz2⟩, hz3, _⟩ := hT.of he
  have hzr : F2 (Lr m w) (T e).zr zv.cells.toList := by rw [hz2]; exact zr_ok hi.nil0 hi.d0 hz3
  have hown' : own τ := by unfold own; omega
  have hne2 : ∀ r lim t, t ≠ τ → (m.newTag τ r lim).D t = true → m.D t = true := fun r lim t h' h => by simpa [M.newTag, upd, h'] using h
  have h63 : ∀ n : Nat, n * (T e).by' ≤ 140737488355328 → n ≤ 9223372036854775807 := fun n h => by
    have : n * 1 ≤ n * (T e).by' := Nat.mul_le_mul_left _ hby
    omega
  have hs' := killSt_nx tg st
  -- the source
  obtain ⟨a2, c2, rfl, hc2⟩ := sl_shape h2
  have hsrc : ∀ w', (∀ b a, m.ρ tg' = some (b, a) → SameB w w' b) → (Builtin.firstCells (T e).sz ys.length (.slice a2 ys.length c2)).run P w' = .ok ys.flatten.toArray w' := fun w' hx => first_cells (P := P) h2 hx
  have hgood2 : (∀ e' ∈ ys, e'.length = (T e).sz ∧ ∀ x ∈ e', x.oneCell' = true) := by
    obtain ⟨_, h2⟩ := h2
    rcases h2 with ⟨_, _, rfl⟩ | ⟨b, a', c, p, _, _, _, _, hr, _⟩
    · simp
    · exact hr.good
  have hfl : ∀ l : List (List Value), (∀ e' ∈ l, e'.length = (T e).sz ∧ ∀ x ∈ e', x.oneCell' = true) → l.flatten.length = l.length * (T e).sz := by
    intro l
    induction l with
    | nil => simp
    | cons q l ih => intro h; simp [(h q (by simp)).1, ih (fun e he => h e (by simp [he])), Nat.add_mul]; omega
  have hone2 : ∀ v ∈ ys.flatten, v.oneCell' = true := fun v hv => by
    obtain ⟨l, hl, hv⟩ := List.mem_flatten.1 hv
    exact (hgood2 l hl).2 v hv
  have hgood12 : (∀ e' ∈ xs, e'.length = (T e).sz ∧ ∀ x ∈ e', x.oneCell' = true) → ∀ e' ∈ xs ++ ys, e'.length = (T e).sz ∧ ∀ x ∈ e', x.oneCell' = true := by
    intro h1 e' he'
    rcases List.mem_append.1 he' with h | h
    · exact h1 e' h
    · exact hgood2 e' h
  -- a new row
  have grow : ∀ (cap : Nat) (olds : List Value) (r : Value), cap < xs.length + ys.length → olds = xs.flatten → (∀ e' ∈ xs, e'.length = (T e).sz ∧ ∀ x ∈ e', x.oneCell' = true) →
      (Builtin.append_ #[t, t] ty #[y1, .slice a2 ys.length c2]).run P w = .ok (.slice (some ⟨w.heap.size, 0, none⟩) (xs.length + ys.length) (grownCap w (xs.length + ys.length) cap e))
        (w.drew.alloc (.cells (olds.toArray ++ ys.flatten.toArray ++ Builtin.zeroCells zv.cells (grownCap w (xs.length + ys.length) cap e - (xs.length + ys.length))) e)) →
      ∃ w' m' y, (Builtin.append_ #[t, t] ty #[y1, .slice a2 ys.length c2]).run P w = .ok y w' ∧ Inv k (killSt tg st) m' a.tmps w' ∧ Lr m' w' (.sl (T e).sz τ 0 (xs ++ ys)) y ∧ ∀ t, t ≠ τ → m'.D t = true → m.D t = true := by
    intro cap olds r hcap holds hgood1 hr
    subst holds
    have hge := grownCap_ge w (xs.length + ys.length) cap e
    have hx : Ext w (w.drew.alloc (.cells (xs.flatten.toArray ++ ys.flatten.toArray ++ Builtin.zeroCells zv.cells (grownCap w (xs.length + ys.length) cap e - (xs.length + ys.length))) e)) := (Ext.drew w).trans (Ext.alloc _ _)
    have hzs : zv.cells.size = (T e).sz := by
      have := F2.len hzr
      rw [← Array.length_toList, ← this, hzl]
    obtain ⟨g1, g2⟩ := fresh (hi.killSt tg) hx (τ := τ) (by rw [hs'.1]; exact hτ) hD hτ5 (heap_alloc_new w.drew _) (Nat.le_refl _) (z := (T e).sz) (c := grownCap w (xs.length + ys.length) cap e) (xs := xs ++ ys)
      (hgood12 hgood1)
      (fun j v hv => by
        rw [List.flatten_append] at hv
        have hlt := (List.getElem?_eq_some_iff.1 hv).1
        simp only [List.length_append] at hlt
        rw [Array.getElem?_append_left (by simpa using hlt), List.append_toArray]
        simpa using hv) (by simpa using hge) (by
        simp only [Array.size_append, List.size_toArray, size_zeroCells, hzs, hfl xs hgood1, hfl ys hgood2, ← Nat.add_mul]
        exact Nat.mul_le_mul_right _ (by omega))
    refine ⟨_, _, _, hr, g1, by simpa using g2, hne2 _ _⟩
  obtain ⟨hd1, h1⟩ := h1
  rcases h1 with ⟨e1, ⟨ad1, rfl⟩, rfl⟩ | ⟨b, a', c, p, e1, rfl, e3, e4, e5, e6⟩
  · by_cases hys : ys = []
    · subst hys
      refine ⟨w, m.newTag τ none 0, .slice ad1 0 0, ?_, ?_, ?_, hne2 _ _⟩
      · have := hsrc w (fun _ _ _ => rfl)
        simp only [List.length_nil, List.flatten_nil] at this
        cases ad1 <;> simp [Builtin.append_, run_underlying hty', sizeOf, typeInfo, hf, hsz, Builtin.lenOf, this, storeCells]
      · exact (hi.killSt tg).newTag (by rw [hs'.1]; exact hτ) hD hτ5 none 0 (by simp)
      · exact ⟨by simp [M.newTag, upd], .inl ⟨by simp [M.newTag, upd], ⟨_, rfl⟩, rfl⟩⟩
    · have hlen : 0 < ys.length := List.length_pos_iff.2 hys
      obtain ⟨hd2, h2⟩ := h2
      rcases h2 with ⟨_, _, hh⟩ | ⟨b2, a2', c2', p2, f1, f2, f3, f4, f5, f6⟩
      · exact (hys hh).elim
      · simp only [Value.slice.injEq] at f2
        obtain ⟨rfl, _, rfl⟩ := f2
        have hp2 := f3 (by omega)
        subst hp2
        obtain ⟨q1, q2⟩ := f5.flat
        have hpy : ys.length * (T e).by' ≤ 140737488355328 := by simpa using hp
        cases ad1 with
        | none =>
          have hr := run_append_nil (P := P) w t ty e f zv hty' hf hz1 ⟨b2, a2' + o2 * (T e).sz, none⟩ ys.length c2 ys.flatten (by rw [hsz]; exact q1) (fun j v hv => by rw [addAt]; exact (q2 j v hv).2) hlen (by have := h63 ys.length hpy; omega) (by rw [hbyf]; omega)
          refine grow 0 [] .nilIface (by simpa using hlen) rfl (by simp) ?_
          simp only [List.length_nil, Nat.zero_add]
          rw [hr]
          simp
        | some ad1 =>
          have hr := run_append_grow (P := P) w t ty e f zv hty' hf hz1 ad1 0 0 [] (by simp) (by simp) ⟨b2, a2' + o2 * (T e).sz, none⟩ ys.length c2 ys.flatten (by rw [hsz]; exact q1) (fun j v hv => by rw [addAt]; exact (q2 j v hv).2) (by omega) (by have := h63 ys.length hpy; omega) (by rw [hbyf, Nat.zero_add]; exact growslice_fits hlen hpy)
          exact grow 0 [] .nilIface (by simpa using hlen) rfl (by simp) (by simpa using hr)
  · by_cases hroom : xs.length + ys.length ≤ c
    · have hto : own tg := by
        rcases hown with rfl | h
        · rw [hi.nil0] at e1; cases e1
        · exact Nat.le_trans (by omega) h
      have ht0 : tg ≠ 0 := by unfold own at hto; omega
      obtain ⟨cs, e', hb, hbs0⟩ := hi.blk tg b a' hd1 hto e1
      have hbs : a' + (o1 + c) * (T e).sz ≤ cs.size := Nat.le_trans e6 hbs0
      have hgood1 := e5.good
      obtain ⟨r1, r2⟩ := e5.flat
      have fin : ∀ (w' : World) (cs' : Array Value), w'.os = w.os → w'.tape = w.tape → w'.output = w.output → w'.heap.size = w.heap.size → (∀ c, c ≠ b → w'.heap[c]? = w.heap[c]?) →
          w'.heap[b]? = some (.cells cs' e' (0, 0)) → cs'.size = cs.size → (∀ j v, (xs ++ ys).flatten[j]? = some v → cs'[a' + o1 * (T e).sz + j]? = some v) →
          (Builtin.append_ #[t, t] ty #[.slice (some ⟨b, p, none⟩) xs.length c, .slice a2 ys.length c2]).run P w = .ok (.slice (some ⟨b, p, none⟩) (xs.length + ys.length) c) w' →
          ∃ w' m' y, (Builtin.append_ #[t, t] ty #[.slice (some ⟨b, p, none⟩) xs.length c, .slice a2 ys.length c2]).run P w = .ok y w' ∧ Inv k (killSt tg st) m' a.tmps w' ∧ Lr m' w' (.sl (T e).sz τ 0 (xs ++ ys)) y ∧ ∀ t, t ≠ τ → m'.D t = true → m.D t = true := by
        intro w' cs' x1 x2 x3 x4 x5 x6 x7 x8 hr
        obtain ⟨q1, q2, q3, q4⟩ := hi.tag tg b a' hd1 e1
        have hlow := q2 hto
        have hI : Inv k (killSt tg st) { m with ρ := upd m.ρ tg none } a.tmps w' := by
          unfold X.killSt
          rw [beq_false ht0]
          refine hi.write (killL tg) hd1 hto e1 x1 x2 x3 x4 x5 (fun _ h => h) rfl rfl ?_ rfl (fun n hn => ?_) (fun t ht => ⟨rfl, by simp only [upd]; rw [if_neg (by omega)]⟩) ?_ hi.d0 ?_
          · intro t c d _ h2
            simp only [upd] at h2
            split at h2
            · cases h2
            · exact h2
          · obtain ⟨cs9, e9, k1, k2⟩ := hn
            rw [hb] at k1
            simp only [Option.some.injEq, Obj.cells.injEq] at k1
            obtain ⟨rfl, _⟩ := k1
            exact ⟨cs', e', x6, by rw [x7]; exact k2⟩
          · simp only [upd]; rw [if_neg (Ne.symm ht0)]; exact hi.nil0
          · intro l y hl
            refine Lr.kill (m := m) (w := w) rfl rfl rfl (fun t hne hd => ⟨hd, by simp [upd, hne], fun b' a'' hb' => x5 b' fun hbb => ?_⟩) hl
            subst hbb
            by_cases ho : own t
            · exact hne (hi.inj t tg b' a'' a' hd hd1 ho hto hb' e1)
            · exact hlow ((hi.tag t b' a'' hd hb').2.2.1 ho)
        have hI2 := hI.newTag (τ := τ) (by rw [hs'.1]; exact hτ) hD hτ5 (some (b, a' + o1 * (T e).sz)) (a' + o1 * (T e).sz + c * (T e).sz) (by
          intro b' a'' hh
          simp only [Option.some.injEq, Prod.mk.injEq] at hh
          obtain ⟨rfl, _⟩ := hh
          refine ⟨by rw [x4]; exact q1, hlow, ?_, ?_, cs', e', x6, by rw [x7]; rw [Nat.add_mul] at hbs; omega⟩
          · rintro ⟨t, a3, hd, hρ⟩
            simp only [upd] at hρ
            split at hρ
            · cases hρ
            · rename_i hne
              by_cases ho : own t
              · exact hne (hi.inj t tg b a3 a' hd hd1 ho hto hρ e1)
              · exact hlow ((hi.tag t b a3 hd hρ).2.2.1 ho)
          · intro i ls hls
            unfold X.killSt at hls
            rw [beq_false ht0] at hls
            simp only [cond_false] at hls
            rw [getb_mapB] at hls
            obtain ⟨ls0, g1, _⟩ := map_some' hls
            exact q4 i ls0 g1)
        refine ⟨w', _, _, hr, hI2, ⟨by simp [M.newTag, upd], .inr ⟨b, a' + o1 * (T e).sz, c, p, by simp [M.newTag, upd], by simp, fun hc => by simpa using e3 hc, by simpa using hroom, ?_, by simp [M.newTag, upd]⟩⟩, ?_⟩
        · refine Rd.of_flat (hgood12 hgood1) fun j v hv => ?_
          have := x8 j v hv
          simp [World.cell?, x6, this]
        · intro t hne hd
          simpa [M.newTag, upd, hne] using hd
      by_cases hc : 0 < c
      · have hp' := e3 hc
        subst hp'
        have hcz : (xs.length + ys.length) * (T e).sz ≤ c * (T e).sz := Nat.mul_le_mul_right _ hroom
        rw [Nat.add_mul] at hcz
        rw [Nat.add_mul] at hbs
        have hyl := hfl ys hgood2
        have hfit : a' + o1 * (T e).sz + xs.length * f.size + ys.flatten.length ≤ cs.size := by
          rw [hsz, hyl]
          omega
        have hr := run_append_in (P := P) (w := w) (ty := ty) hty' hf b _ xs.length c ys.length c2 cs hb a2 ys.flatten (by rw [hsz]; exact hsrc w (fun _ _ _ => rfl)) hroom hfit hone2
        obtain ⟨u1, u2⟩ := inplace_cells cs (a' + o1 * (T e).sz + xs.length * f.size) (a' + o1 * (T e).sz) xs.flatten ys.flatten (by rw [r1, hsz]) hfit (fun j v hv => by
          have h3 := (r2 j v hv).2
          simpa [World.cell?, hb] using h3)
        exact fin (w.setRow b _) _ rfl rfl rfl (by simp) (fun c hc => setRow_other w b c _ hc) (setRow_heap w b cs _ e' (0, 0) hb) u1 (fun j v hv => by rw [List.flatten_append] at hv; exact u2 j v hv) hr
      · have hx0 : xs = [] := List.eq_nil_of_length_eq_zero (by omega)
        have hy0 : ys = [] := List.eq_nil_of_length_eq_zero (by omega)
        have hc0 : c = 0 := by omega
        subst hx0 hy0 hc0
        have hsr := hsrc w (fun _ _ _ => rfl)
        refine fin w cs rfl rfl rfl rfl (fun _ _ => rfl) hb rfl (by simp) ?_
        simp [Builtin.append_, run_underlying hty', sizeOf, typeInfo, hf, hsz, Builtin.lenOf]
        simp at hsr
        simp [hsr, storeCells]
    · have hgood1 := e5.good
      have hys : ys ≠ [] := by rintro rfl; simp at hroom; omega
      have hlen : 0 < ys.length := List.length_pos_iff.2 hys
      obtain ⟨hd2, h2⟩ := h2
      rcases h2 with ⟨_, _, hh⟩ | ⟨b2, a2', c2', p2, f1, f2, f3, f4, f5, f6⟩
      · exact (hys hh).elim
      · simp only [Value.slice.injEq] at f2
        obtain ⟨rfl, _, rfl⟩ := f2
        have hp2 := f3 (by omega)
        subst hp2
        obtain ⟨q1, q2⟩ := f5.flat
        obtain ⟨r1, r2⟩ := e5.flat
        have hr := run_append_grow (P := P) w t ty e f zv hty' hf hz1 ⟨b, p, none⟩ xs.length c xs.flatten (by rw [hsz]; exact r1) (fun j v hv => by
            have hj := (List.getElem?_eq_some_iff.1 hv).1
            have hpos : 0 < xs.length := by
              rcases Nat.eq_zero_or_pos xs.length with h | h
              · rw [r1, h] at hj; omega
              · exact h
            rw [addAt, e3 (by omega)]; exact (r2 j v hv).2)
          ⟨b2, a2' + o2 * (T e).sz, none⟩ ys.length c2 ys.flatten (by rw [hsz]; exact q1) (fun j v hv => by rw [addAt]; exact (q2 j v hv).2) (by omega) (by have := h63 _ hp; omega) (by rw [hbyf]; exact growslice_fits (by omega) hp)
        exact grow c xs.flatten .nilIface (by omega) rfl hgood1 hr
end
end Go.Proofs.YtlinhogbnmnhjaaDoor.X

namespace Go.Proofs.YtlinhogbnmnhjaaDoor.X
open Go Go.RowKit
set_option linter.unusedVariables false
set_option linter.unusedSimpArgs false
set_option linter.unusedSectionVars false

def Eff (P : Program) [HasPhi P] (o : Oper) (st st' : St) : Prop :=
  ∀ (k : K (HasPhi.Φ P)) m (a : Act) w, Inv k st m a.tmps w → ∀ (K' : Act → World → Prop) (Q : Exit → Act → World → Prop),
    (∀ a' w' m', Inv k st' m' a'.tmps w' → a'.defers = a.defers → K' a' w') → o.wp P a w K' Q

theorem eff_mono {P : Program} [HasPhi P] {o : Oper} {st st' : St} (h : Mono P o { st with nx := st.nx + 16, nb := st.nb + 1 } st.nx st.nb st') : Eff P o st st' := by
  intro k m a w hi K' Q hK
  have hr := hi.reserve (nx := st.nx + 16) (nb := st.nb + 1) (by omega) (by omega)
  refine h k m a w hr (fun j hj => ?_) (Nat.le_refl _) hi.big ?_ ⟨hi.bigb, Nat.lt_succ_self _⟩ K' Q (fun a' w' m' h1 h2 _ => hK a' w' m' h1 h2)
  · cases hd : m.D (st.nx + j) with
    | false => rfl
    | true => have := hi.n _ hd; omega
  · show getb st.bx st.nb = none
    cases hd : getb st.bx st.nb with
    | none => rfl
    | some ls => have := (hi.box _ ls hd).1; omega

theorem wp_skipop {P : Program} [HasPhi P] {o : Oper} {a : Act} {w w' : World} (h : (execOp a.eval o).run P w = .ok .skip w') (hd : o.dst = none) {K' : Act → World → Prop} {Q : Exit → Act → World → Prop} (hk : K' a w') : o.wp P a w K' Q := by
  unfold Oper.wp
  rw [h]
  show K' (a.put o.dst undef) w'
  rw [hd]
  exact hk

def updL (z t j : Nat) (e' : List Value) : L → L
  | .sl z' t' o xs => bif Nat.beq t t' then (bif Nat.beq z z' then .sl z' t' o (bif Nat.ble o j then xs.set (j - o) e' else xs) else .x) else .sl z' t' o xs
  | .ep z' t' j' o e => bif Nat.beq t t' then .x else .ep z' t' j' o e
  | .v x => .v x
  | .pt i o => .pt i o
  | .x => .x

theorem splice_get (cs : List Value) (q : Nat) (vs : List Value) (h : q + vs.length ≤ cs.length) (i : Nat) :
    (cs.take q ++ vs ++ cs.drop (q + vs.length))[i]? = if i < q then cs[i]? else if i < q + vs.length then vs[i - q]? else cs[i]? := by
  by_cases h1 : i < q
  · rw [if_pos h1, List.append_assoc, List.getElem?_append_left (by simp; omega), List.getElem?_take, if_pos h1]
  · rw [if_neg h1]
    by_cases h2 : i < q + vs.length
    · rw [if_pos h2, List.append_assoc, List.getElem?_append_right (by simp; omega), List.getElem?_append_left (by simp; omega)]
      congr 1; simp; omega
    · rw [if_neg h2, List.getElem?_append_right (by simp; omega), List.getElem?_drop]
      congr 1; simp; omega

section
variable {P : Program} [HasPhi P] {T : Nat → TI}

theorem mono_append (hT : TyOK P T) {st st' : St} {o : Oper} {t e τ κ tg tg' o1 o2 : Nat} {s x : Operand} {xs ys : List (List Value)} (ho : o.op = .call { callee := .builtin .append, args := #[s, x], argTypes := #[t, t] })
    (ht : (T t).d = .sl e) (he : hasT T e = true) (hz0 : 0 < (T e).sz) (hby : 0 < (T e).by') (hzl : (T e).zr.length = (T e).sz)
    (h1 : opnd T st t s = .c (false, [.sl (T e).sz tg o1 xs])) (h2 : opnd T st t x = .c (false, [.sl (T e).sz tg' o2 ys])) (hown : tg = 0 ∨ 100 ≤ tg)
    (hp : (xs.length + ys.length) * (T e).by' ≤ 140737488355328)
    (h' : (killSt tg st).putD o.dst (.c (false, [.sl (T e).sz τ 0 (xs ++ ys)])) = some st') : Mono P o st τ κ st' := by
  intro k m a w hi hD hτ hτ5 hκ hκ2 K' Q hK
  have v1 := opnd_inv hT hi t s; rw [h1] at v1
  have v2 := opnd_inv hT hi t x; rw [h2] at v2
  obtain ⟨w', m', y, hr, hI, hL, hd⟩ := append_core hT hi (ty := o.type) ht he hz0 hby hzl v1 v2 hown hp (by omega) (by simpa using hD 0 (by omega)) hτ5
  refine wp_value (w' := w') (y := y) ?_ (hK _ _ _ (hI.putD (Ar_l hL) h') (put_defers _ _ _) (fun t ht => hd t (by omega)))
  simp [execOp, ho, resolve, invoke, builtin, hr]

/-- A store into a variable in memory. -/
theorem eff_storeB (hT : TyOK P T) {st : St} {o : Oper} {t i off : Nat} {x v : Operand} {ls : List L} {c : C} (ho : o.op = .store t x v) (hd : o.dst = none) (ht : hasT T t = true)
    (hx : opnd T st 0 x = .c (false, [.pt i off])) (hls : getb st.bx i = some ls) (hv : opnd T st t v = .c c) (hl : c.2.length = (T t).sz) (hfit : off + c.2.length ≤ ls.length) :
    Eff P o st { st with bx := (i, ls.take off ++ c.2 ++ ls.drop (off + c.2.length)) :: st.bx } := by
  intro k m a w hi K' Q hK
  have v1 := opnd_inv hT hi 0 x; rw [hx] at v1
  have v2 := opnd_inv hT hi t v; rw [hv] at v2
  obtain ⟨hB, hp⟩ := v1
  have hcells := Cr.cells (b := c.1) (ls := c.2) v2
  have hlen := F2.len hcells
  obtain ⟨hnb, cs, e, hb, hf⟩ := hi.box i ls hls
  have hlc := F2.len hf
  have hone : ∀ u ∈ (a.eval v).cells.toList, u.oneCell' = true := F2.mem (fun _ _ h => Lr.one h) hcells
  simp only [Array.length_toList] at hlen hlc
  have hst := run_storeCells_at P (m.β i) off e (a.eval v).cells.toList 0 cs w hb (by simp; omega) hone
  simp only [Nat.add_zero] at hst
  have hf' : F2 (Lr m w) (ls.take off ++ c.2 ++ ls.drop (off + c.2.length)) (cs.toList.take off ++ (a.eval v).cells.toList ++ cs.toList.drop (off + (a.eval v).cells.toList.length)) := by
    refine F2.app ?_ (F2.app hcells (F2.take _ hf))
    have := F2.drop (off + c.2.length) hf
    rw [hlen] at this ⊢
    simpa using this
  have hI := hi.setBox (cs' := (cs.toList.take off ++ (a.eval v).cells.toList ++ cs.toList.drop (off + (a.eval v).cells.toList.length)).toArray) hls hf'
  have hsz : (a.eval v).cells.size = (T t).sz := by omega
  generalize (cs.toList.take off ++ (a.eval v).cells.toList ++ cs.toList.drop (off + (a.eval v).cells.toList.length)).toArray = cs' at hst hI
  have hw : (execOp a.eval o).run P w = .ok .skip (w.setRow (m.β i) cs') := by
    simp [execOp, ho, Instr.storeAt, hp, Instr.sureAddr, storeVar, run_sizeOf hT w ht, hsz, hst]
  exact wp_skipop hw hd (hK _ _ _ hI rfl)

theorem eff_storeE (hT : TyOK P T) {st : St} {o : Oper} {t z tg j off : Nat} {x v : Operand} {e vs : List Value} {c : C} (ho : o.op = .store t x v) (hd : o.dst = none) (ht : hasT T t = true) (hpos : 0 < (T t).sz)
    (hx : opnd T st 0 x = .c (false, [.ep z tg j off e])) (hown : 50 ≤ tg) (hv : opnd T st t v = .c c) (hvs : valsL c.2 = some vs) (hl : c.2.length = (T t).sz) (hfit : off + (T t).sz ≤ e.length) :
    Eff P o st { st with env := mapE (updL z tg j (e.take off ++ vs ++ e.drop (off + vs.length))) st.env, bx := mapB (updL z tg j (e.take off ++ vs ++ e.drop (off + vs.length))) st.bx } := by
  intro k m a w hi K' Q hK
  have v1 := opnd_inv hT hi 0 x; rw [hx] at v1
  have v2 := opnd_inv hT hi t v; rw [hv] at v2
  have hcells := Cr.cells (b := c.1) (ls := c.2) v2
  have hlen := F2.len hcells
  obtain ⟨hyv, hone⟩ := valsL_sound hvs hcells
  obtain ⟨hD, b, a', hρ, hp, hrd⟩ := v1
  have hto : own tg := hown
  have ht0 : tg ≠ 0 := by omega
  obtain ⟨cs, e', hb, hbl⟩ := hi.blk tg b a' hD hto hρ
  obtain ⟨he1, he2⟩ := hrd 0 e rfl
  simp only [Nat.zero_mul, Nat.add_zero] at he2
  have hvl : vs.length = (T t).sz := by rw [← hyv, ← hlen, hl]
  have hcsz : (a.eval v).cells.size = (T t).sz := by rw [← Array.length_toList, ← hlen, hl]
  -- all cells of the element lie in the block
  have hin : ∀ (i : Nat) (x : Value), e[i]? = some x → cs.toList[a' + j * z + i]? = some x := fun i x hx => by
    have := (he2 i x hx).2
    simpa [World.cell?, hb] using this
  have hsz : a' + j * z + off + vs.length ≤ cs.toList.length := by
    have hlt : off + (T t).sz - 1 < e.length := by omega
    have := hin _ _ (List.getElem?_eq_getElem hlt)
    have := (List.getElem?_eq_some_iff.1 this).1
    omega
  have hst := run_storeCells_at P b (a' + j * z + off) e' vs 0 cs w hb (by simpa using hsz) hone
  simp only [Nat.add_zero] at hst
  generalize hcs' : (cs.toList.take (a' + j * z + off) ++ vs ++ cs.toList.drop (a' + j * z + off + vs.length)) = cs' at hst
  have hget : ∀ i, cs'[i]? = if i < a' + j * z + off then cs.toList[i]? else if i < a' + j * z + off + vs.length then vs[i - (a' + j * z + off)]? else cs.toList[i]? := fun i => by
    rw [← hcs']; exact splice_get _ _ _ hsz i
  have hcl : cs'.length = cs.size := by rw [← hcs', ← Array.length_toList]; simp; simp at hsz; omega
  have hw : (execOp a.eval o).run P w = .ok .skip (w.setRow b cs'.toArray) := by
    simp [execOp, ho, Instr.storeAt, hp, Instr.sureAddr, storeVar, run_sizeOf hT w ht, hcsz, hyv, hst]
  refine wp_skipop hw hd (hK _ _ m ?_ rfl)
  have hhb : (w.setRow b cs'.toArray).heap[b]? = some (.cells cs'.toArray e' (0, 0)) := setRow_heap w b cs _ e' (0, 0) hb
  have hoth : ∀ c, c ≠ b → (w.setRow b cs'.toArray).heap[c]? = w.heap[c]? := fun c hc => setRow_other w b c _ hc
  have hlow := (hi.tag tg b a' hD hρ).2.1 hto
  refine hi.write (updL z tg j _) hD hto hρ rfl rfl rfl (by simp) hoth (fun _ h => h) rfl rfl (fun _ _ _ _ h => h) rfl (fun n hn => ?_) (fun _ _ => ⟨rfl, rfl⟩) hi.nil0 hi.d0 ?_
  · obtain ⟨cs9, e9, k1, k2⟩ := hn
    rw [hb] at k1
    simp only [Option.some.injEq, Obj.cells.injEq] at k1
    obtain ⟨rfl, _⟩ := k1
    exact ⟨_, e', hhb, by simp only [List.size_toArray, hcl]; exact k2⟩
  intro l y hl'
  have hother : ∀ t', t' ≠ tg → m.D t' = true → ∀ b' a'', m.ρ t' = some (b', a'') → SameB w (w.setRow b cs'.toArray) b' := by
    intro t' hne hd' b' a'' hρ'
    refine hoth b' fun hbb => ?_
    subst hbb
    by_cases ho' : own t'
    · exact hne (hi.inj t' tg b' a'' a' hd' hD ho' hto hρ' hρ)
    · exact hlow ((hi.tag t' b' a'' hd' hρ').2.2.1 ho')
  cases l with
  | v x => exact hl'
  | x => exact hl'
  | pt i o => exact hl'
  | ep z' t' j' o e2 =>
    by_cases he : tg = t'
    · subst he; simp only [updL, Nat.beq_refl, cond_true]; exact Lr.one hl'
    · simp only [updL, beq_false he, cond_false]
      exact hl'.keep1 rfl rfl rfl fun t2 h2 hd2 => by cases h2; exact ⟨hd2, rfl, hother _ (Ne.symm he) hd2⟩
  | sl z' t' o xs =>
    by_cases he : tg = t'
    · subst he
      by_cases hz : z = z'
      · subst hz
        simp only [updL, Nat.beq_refl, cond_true]
        obtain ⟨hd2, hl2⟩ := hl'
        rcases hl2 with ⟨g1, _, _⟩ | ⟨b1, a1, c1, p1, g1, g2, g3, g4, g5, g6⟩
        · rw [hρ] at g1; cases g1
        · rw [hρ] at g1
          simp only [Option.some.injEq, Prod.mk.injEq] at g1
          obtain ⟨rfl, rfl⟩ := g1
          have hlen2 : (bif Nat.ble o j then xs.set (j - o) (e.take off ++ vs ++ e.drop (off + vs.length)) else xs).length = xs.length := by cases Nat.ble o j <;> simp
          refine ⟨hd2, .inr ⟨b, a', c1, p1, hρ, by rw [hlen2]; exact g2, g3, by rw [hlen2]; exact g4, ?_, g6⟩⟩
          · intro q e3 he3
            have hcell : ∀ i (x : Value), cs'[a' + o * z + q * z + i]? = some x → (w.setRow b cs'.toArray).cell? ⟨b, a' + o * z + q * z + i, none⟩ = some x := fun i x hx => by
              simp [World.cell?, hhb, hx]
            have hq2 : a' + o * z + q * z = a' + (o + q) * z := by rw [Nat.add_mul]; omega
            by_cases hoj : o + q = j
            · have hble : Nat.ble o j = true := Nat.ble_eq_true_of_le (by omega)
              rw [hble, cond_true] at he3
              have hqj : j - o = q := by omega
              rw [hqj, List.getElem?_set_self'] at he3
              cases hxq : xs[q]? with
              | none => rw [hxq] at he3; cases he3
              | some e4 =>
                rw [hxq] at he3
                simp at he3
                subst he3
                have hle : off + vs.length ≤ e.length := by omega
                refine ⟨by simp; omega, fun i x hx => ?_⟩
                rw [← List.append_assoc, splice_get e off vs hle] at hx
                have hone' : x.oneCell' = true := by
                  split at hx
                  · exact (he2 i x hx).1
                  · split at hx
                    · exact hone x (List.mem_of_getElem? hx)
                    · exact (he2 i x hx).1
                refine ⟨hone', hcell i x ?_⟩
                rw [hget, hq2, hoj]
                by_cases h1 : i < off
                · rw [if_pos (by omega)]
                  rw [if_pos h1] at hx
                  exact hin i x hx
                · rw [if_neg (by omega)]
                  rw [if_neg h1] at hx
                  by_cases h2 : i < off + vs.length
                  · rw [if_pos (by omega)]
                    rw [if_pos h2] at hx
                    rw [← hx]; congr 1; omega
                  · rw [if_neg (by omega)]
                    rw [if_neg h2] at hx
                    exact hin i x hx
            · have he5 : xs[q]? = some e3 := by
                cases hble : Nat.ble o j with
                | false => rw [hble, cond_false] at he3; exact he3
                | true =>
                  rw [hble, cond_true] at he3
                  have := Nat.le_of_ble_eq_true hble
                  rw [List.getElem?_set_ne (by omega)] at he3
                  exact he3
              obtain ⟨f1, f2⟩ := g5 q e3 he5
              refine ⟨f1, fun i x hx => ⟨(f2 i x hx).1, hcell i x ?_⟩⟩
              have hiz : i < z := by rw [← f1]; exact (List.getElem?_eq_some_iff.1 hx).1
              have hold := (f2 i x hx).2
              simp only [World.cell?, hb, Option.isSome_none, Bool.false_eq_true, if_false] at hold
              rw [hget, hq2]
              rw [hq2] at hold
              have hold' : cs.toList[a' + (o + q) * z + i]? = some x := by simpa using hold
              have hofz : off + vs.length ≤ z := by omega
              rcases Nat.lt_or_gt_of_ne hoj with h | h
              · have : (o + q + 1) * z ≤ j * z := Nat.mul_le_mul_right _ h
                rw [Nat.add_mul (o + q)] at this
                rw [if_pos (by omega)]; exact hold'
              · have : (j + 1) * z ≤ (o + q) * z := Nat.mul_le_mul_right _ h
                rw [Nat.add_mul j] at this
                rw [if_neg (by omega), if_neg (by omega)]; exact hold'
      · simp only [updL, Nat.beq_refl, cond_true, beq_false hz, cond_false]
        exact Lr.one hl'
    · simp only [updL, beq_false he, cond_false]
      exact hl'.keep1 rfl rfl rfl fun t2 h2 hd2 => by cases h2; exact ⟨hd2, rfl, hother _ (Ne.symm he) hd2⟩
end
end Go.Proofs.YtlinhogbnmnhjaaDoor.X

namespace Go.Proofs.YtlinhogbnmnhjaaDoor.X
open Go Go.RowKit
set_option linter.unusedVariables false
set_option linter.unusedSimpArgs false
set_option linter.unusedSectionVars false

/-! renaming of tags and boxes: 'tm' says, for a tag of the new state, the old tag and how many cells further on the row begins; 'bm' the same for boxes -/
abbrev TM := List (Nat × Nat × Nat)
abbrev BM := List (Nat × Nat)
def lk {α : Type} : List (Nat × α) → Nat → Option α
  | [], _ => none
  | (s, v) :: r, t => bif Nat.beq s t then some v else lk r t

theorem lk_cons {α : Type} (s d : Nat) (v : α) (e : List (Nat × α)) : lk ((d, v) :: e) s = if s = d then some v else lk e s := by
  show (bif Nat.beq d s then some v else lk e s) = _
  by_cases h : s = d
  · subst h; simp
  · rw [beq_false (Ne.symm h), if_neg h]; rfl

theorem lk_mem {α : Type} : ∀ {l : List (Nat × α)} {t : Nat} {v : α}, lk l t = some v → (t, v) ∈ l
  | [], _, _, h => by simp [lk] at h
  | (d, u) :: l, t, v, h => by
    rw [lk_cons] at h
    split at h
    · rename_i he; subst he; simp only [Option.some.injEq] at h; subst h; simp
    · exact List.mem_cons_of_mem _ (lk_mem h)

/-- 'T' of the new state is 't' of the old one, 's' cells further on -/
def tagM (tm : TM) (t T s : Nat) : Prop := bif Nat.blt T 100 then t = T ∧ s = 0 else lk tm T = some (t, s)
def LM (tm : TM) (bm : BM) : L → L → Prop
  | _, .x => True
  | .v x, .v y => x = y
  | .sl z t o xs, .sl z' T O ys => z = z' ∧ xs = ys ∧ ∃ s, o * z = s + O * z ∧ tagM tm t T s
  | .pt i o, .pt I O => o = O ∧ lk bm I = some i
  | _, _ => False
def CM (tm : TM) (bm : BM) : C → C → Prop
  | (b, ls), (b', ls') => b = b' ∧ F2 (LM tm bm) ls ls'
def AM (tm : TM) (bm : BM) : A → A → Prop
  | _, .u => True
  | .c x, .c y => CM tm bm x y
  | .tup xs, .tup ys => F2 (CM tm bm) xs ys
  | _, _ => False
def distinct : List Nat → Bool
  | [] => true
  | a :: l => l.all (fun b => !Nat.beq a b) && distinct l
def TMok (nx : Nat) (tm : TM) : Bool :=
  tm.all (fun p => Nat.ble 100 p.1 && Nat.blt p.1 nx && Nat.ble 100 p.2.1) && distinct (tm.map fun p => p.2.1)
def BMok (nb : Nat) (bm : BM) (bx : List (Nat × List L)) : Bool :=
  Nat.ble 8 nb && (bm.all (fun p => Nat.blt p.1 nb && (Nat.beq p.1 p.2 || Nat.ble 8 p.1)) && distinct (bm.map fun p => p.2) && bm.all (fun p => (getb bx p.1).isSome))
def EM (tm : TM) (bm : BM) (e : Env) : Env → Prop
  | [] => True
  | (s, v) :: r => AM tm bm (get e s) v ∧ EM tm bm e r
def XM (tm : TM) (bm : BM) (b : List (Nat × List L)) : List (Nat × List L) → Prop
  | [] => True
  | (I, ls') :: r => (∃ i ls, lk bm I = some i ∧ getb b i = some ls ∧ F2 (LM tm bm) ls ls') ∧ XM tm bm b r
/-- 'st' may be looked on as 'st''. -/
def SM (tm : TM) (bm : BM) (st st' : St) : Prop :=
  TMok st'.nx tm = true ∧ BMok st'.nb bm st'.bx = true ∧ st'.N = st.N ∧ Nat.ble 100 st'.nx = true ∧ EM tm bm st.env st'.env ∧ XM tm bm st.bx st'.bx

theorem distinct_inj {α : Type} (f : α → Nat) : ∀ {l : List (Nat × α)} {t t' : Nat} {v v' : α}, distinct (l.map fun p => f p.2) = true → lk l t = some v → lk l t' = some v' → f v = f v' → t = t'
  | [], _, _, _, _, _, h, _, _ => by simp [lk] at h
  | (d, u) :: l, t, t', v, v', hd, h, h', he => by
    simp only [List.map_cons, distinct, Bool.and_eq_true] at hd
    have hne : ∀ {s : Nat} {y : α}, lk l s = some y → f u ≠ f y := by
      intro s y hs
      have hm := lk_mem hs
      have := List.all_eq_true.1 hd.1 (f y) (List.mem_map.2 ⟨(s, y), hm, rfl⟩)
      intro e
      rw [e] at this
      simp at this
    rw [lk_cons] at h h'
    by_cases h1 : t = d <;> by_cases h2 : t' = d
    · rw [h1, h2]
    · rw [if_pos h1] at h; rw [if_neg h2] at h'
      simp only [Option.some.injEq] at h
      subst h
      exact (hne h' he).elim
    · rw [if_neg h1] at h; rw [if_pos h2] at h'
      simp only [Option.some.injEq] at h'
      subst h'
      exact (hne h he.symm).elim
    · rw [if_neg h1] at h; rw [if_neg h2] at h'
      exact distinct_inj f hd.2 h h' he

def M.ren (m : M) (tm : TM) (bm : BM) : M where
  ρ T := if T < 100 then m.ρ T else match lk tm T with
    | some (t, s) => (m.ρ t).map fun p => (p.1, p.2 + s)
    | none => none
  β I := match lk bm I with
    | some i => m.β i
    | none => 0
  D T := if T < 100 then m.D T else match lk tm T with
    | some (t, _) => m.D t
    | none => false
  B I := match lk bm I with
    | some i => m.B i
    | none => false
  L T := if T < 100 then m.L T else match lk tm T with
    | some (t, _) => m.L t
    | none => 0

theorem LM.sound {m : M} {w : World} {tm : TM} {bm : BM} (htm : ∀ T t s, lk tm T = some (t, s) → own t ∧ own T) {l l' : L} {y : Value} (hl : LM tm bm l l') (h : Lr m w l y) : Lr (m.ren tm bm) w l' y := by
  cases l' with
  | x => exact Lr.one h
  | v x' => cases l <;> simp only [LM] at hl; subst hl; exact h
  | ep => cases l <;> simp only [LM] at hl
  | pt I O =>
    cases l <;> simp only [LM] at hl
    obtain ⟨rfl, hb⟩ := hl
    obtain ⟨h1, h2⟩ := h
    exact ⟨by simp [M.ren, hb, h1], by simp [M.ren, hb, h2]⟩
  | sl z' T O ys =>
    cases l <;> simp only [LM] at hl
    rename_i z t o xs
    obtain ⟨rfl, rfl, s, hs, ht⟩ := hl
    obtain ⟨h1, h2⟩ := h
    have hD : (m.ren tm bm).D T = true := by
      unfold tagM at ht
      by_cases hT : T < 100
      · rw [show Nat.blt T 100 = true from by simpa [Nat.blt_eq] using hT] at ht
        simp only [cond_true] at ht
        obtain ⟨rfl, rfl⟩ := ht
        simp [M.ren, hT, h1]
      · rw [show Nat.blt T 100 = false from by cases hb : Nat.blt T 100 with | false => rfl | true => exact absurd (by simpa [Nat.blt_eq] using hb) hT] at ht
        simp only [cond_false] at ht
        simp [M.ren, hT, ht, h1]
    have hρ : (m.ren tm bm).ρ T = (m.ρ t).map fun p => (p.1, p.2 + s) := by
      unfold tagM at ht
      by_cases hT : T < 100
      · rw [show Nat.blt T 100 = true from by simpa [Nat.blt_eq] using hT] at ht
        simp only [cond_true] at ht
        obtain ⟨rfl, rfl⟩ := ht
        simp [M.ren, hT]
      · rw [show Nat.blt T 100 = false from by cases hb : Nat.blt T 100 with | false => rfl | true => exact absurd (by simpa [Nat.blt_eq] using hb) hT] at ht
        simp only [cond_false] at ht
        simp [M.ren, hT, ht]
    have hLim : (m.ren tm bm).L T = m.L t := by
      unfold tagM at ht
      by_cases hT : T < 100
      · rw [show Nat.blt T 100 = true from by simpa [Nat.blt_eq] using hT] at ht
        simp only [cond_true] at ht
        obtain ⟨rfl, rfl⟩ := ht
        simp [M.ren, hT]
      · rw [show Nat.blt T 100 = false from by cases hb : Nat.blt T 100 with | false => rfl | true => exact absurd (by simpa [Nat.blt_eq] using hb) hT] at ht
        simp only [cond_false] at ht
        simp [M.ren, hT, ht]
    refine ⟨hD, ?_⟩
    rcases h2 with ⟨g1, g2, g3⟩ | ⟨b, a, c, p, g1, g2, g3, g4, g5, g6⟩
    · exact .inl ⟨by rw [hρ, g1]; rfl, g2, g3⟩
    · refine .inr ⟨b, a + s, c, p, by rw [hρ, g1]; rfl, g2, fun hc => by rw [g3 hc, hs]; omega, g4, by rw [show a + s + O * z = a + o * z from by omega]; exact g5, ?_⟩
      rw [hLim]
      rw [Nat.add_mul] at g6 ⊢
      omega

theorem CM.sound {m : M} {w : World} {tm : TM} {bm : BM} (htm : ∀ T t s, lk tm T = some (t, s) → own t ∧ own T) {c c' : C} {y : Value} (hc : CM tm bm c c') (h : Cr m w c y) : Cr (m.ren tm bm) w c' y := by
  obtain ⟨b, ls⟩ := c
  obtain ⟨b', ls'⟩ := c'
  obtain ⟨rfl, hf⟩ := hc
  have key : ∀ {ls ls' : List L} {ys : List Value}, F2 (LM tm bm) ls ls' → F2 (Lr m w) ls ys → F2 (Lr (m.ren tm bm) w) ls' ys := by
    intro ls
    induction ls with
    | nil => intro ls' ys h1 h2; cases ls' <;> cases ys <;> simp_all [F2]
    | cons a ls ih =>
      intro ls' ys h1 h2
      cases ls' with
      | nil => exact h1.elim
      | cons a' ls' =>
        cases ys with
        | nil => exact h2.elim
        | cons y ys => exact ⟨h1.1.sound htm h2.1, ih h1.2 h2.2⟩
  cases b with
  | true => obtain ⟨vs, rfl, h2⟩ := h; exact ⟨vs, rfl, key hf h2⟩
  | false =>
    match ls, ls', hf, h with
    | [l], [l'], hf, h => exact hf.1.sound htm h

theorem F2.comp {α γ δ : Type} {R : α → γ → Prop} {S : α → δ → Prop} {U : γ → δ → Prop} (h : ∀ a b c, R a b → S a c → U b c) : ∀ {l : List α} {r : List γ} {s : List δ}, F2 R l r → F2 S l s → F2 U r s
  | [], [], [], _, _ => trivial
  | _ :: _, _ :: _, _ :: _, h1, h2 => ⟨h _ _ _ h1.1 h2.1, F2.comp h h1.2 h2.2⟩

theorem AM.sound {m : M} {w : World} {tm : TM} {bm : BM} (htm : ∀ T t s, lk tm T = some (t, s) → own t ∧ own T) {x x' : A} {y : Value} (hc : AM tm bm x x') (h : Ar m w x y) : Ar (m.ren tm bm) w x' y := by
  cases x' with
  | u => trivial
  | c x' => cases x <;> simp only [AM] at hc; exact CM.sound htm hc h
  | tup ys =>
    cases x <;> simp only [AM] at hc
    obtain ⟨vs, rfl, hf⟩ := h
    exact ⟨vs, rfl, F2.comp (R := CM tm bm) (S := Cr m w) (U := Cr (m.ren tm bm) w) (fun _ _ _ h1 h2 => CM.sound htm h1 h2) hc hf⟩

theorem Inv.ren {φ : World → Prop} {k : K φ} {st st' : St} {m : M} {tv : Array Value} {w : World} (hi : Inv k st m tv w) {tm : TM} {bm : BM} (h : SM tm bm st st') : Inv k st' (m.ren tm bm) tv w := by
  obtain ⟨h1, h2, h3, h4, h5, h6⟩ := h
  simp only [TMok, Bool.and_eq_true] at h1
  simp only [BMok, Bool.and_eq_true] at h2
  obtain ⟨h28, h2⟩ := h2
  have hb8 : ∀ I i, lk bm I = some i → I < 8 → I = i := fun I i hl h8 => by
    have := List.all_eq_true.1 h2.1.1 (I, i) (lk_mem hl)
    simp only [Bool.and_eq_true, Bool.or_eq_true] at this
    rcases this.2 with h | h
    · exact Nat.eq_of_beq_eq_true h
    · have := Nat.le_of_ble_eq_true h; omega
  have hmem : ∀ T t s, lk tm T = some (t, s) → 100 ≤ T ∧ T < st'.nx ∧ 100 ≤ t := by
    intro T t s hl
    have := List.all_eq_true.1 h1.1 (T, t, s) (lk_mem hl)
    simp only [Bool.and_eq_true, Nat.blt_eq] at this
    exact ⟨Nat.le_of_ble_eq_true this.1.1, this.1.2, Nat.le_of_ble_eq_true this.2⟩
  have htm : ∀ T t s, lk tm T = some (t, s) → own t ∧ own T := fun T t s hl => ⟨Nat.le_trans (by omega) (hmem T t s hl).2.2, Nat.le_trans (by omega) (hmem T t s hl).1⟩
  have hbinj : ∀ I J i, lk bm I = some i → lk bm J = some i → I = J := fun I J i e1 e2 => distinct_inj (fun x => x) h2.1.2 e1 e2 rfl
  have hxm : ∀ (b : List (Nat × List L)), XM tm bm st.bx b → ∀ I ls', getb b I = some ls' → ∃ i ls, lk bm I = some i ∧ getb st.bx i = some ls ∧ F2 (LM tm bm) ls ls' := by
    intro b
    induction b with
    | nil => intro _ I ls' h; simp [getb] at h
    | cons p b ih =>
      obtain ⟨d, l0⟩ := p
      intro hx I ls' h
      rw [getb_cons] at h
      split at h
      · rename_i he; subst he; simp only [Option.some.injEq] at h; subst h; exact hx.1
      · exact ih hx.2 I ls' h
  have hem : ∀ (e : Env), EM tm bm st.env e → ∀ s, AM tm bm (X.get st.env s) (X.get e s) := by
    intro e
    induction e with
    | nil => intro _ s; exact trivial
    | cons p e ih =>
      obtain ⟨d, v⟩ := p
      intro hx s
      rw [get_cons]
      split
      · rename_i he; subst he; exact hx.1
      · exact ih hx.2 s
  have hbx := hxm _ h6
  have hρD : ∀ T b a, (m.ren tm bm).D T = true → (m.ren tm bm).ρ T = some (b, a) → ∃ t a', m.D t = true ∧ m.ρ t = some (b, a') ∧ ((T < 100 ∧ t = T) ∨ (100 ≤ T ∧ ∃ s, lk tm T = some (t, s))) := by
    intro T b a hD hρ
    simp only [M.ren] at hD hρ
    by_cases hT : T < 100
    · rw [if_pos hT] at hD hρ
      exact ⟨T, a, hD, hρ, .inl ⟨hT, rfl⟩⟩
    · rw [if_neg hT] at hD hρ
      cases hl : lk tm T with
      | none => rw [hl] at hD; cases hD
      | some p =>
        obtain ⟨t, s⟩ := p
        rw [hl] at hD hρ
        obtain ⟨p, hp, he⟩ := map_some' hρ
        obtain ⟨b', a'⟩ := p
        simp only [Prod.mk.injEq] at he
        obtain ⟨rfl, rfl⟩ := he
        exact ⟨t, a', hD, hp, .inr ⟨by omega, s, rfl⟩⟩
  exact {
    os := hi.os, tape := hi.tape, output := hi.output, size := hi.size, old := hi.old
    n := fun T hT => by
      have hb : 100 ≤ st'.nx := Nat.le_of_ble_eq_true h4
      simp only [M.ren] at hT
      by_cases h50 : T < 100
      · omega
      · rw [if_neg h50] at hT
        cases hl : lk tm T with
        | none => rw [hl] at hT; cases hT
        | some p => exact (hmem T p.1 p.2 hl).2.1
    nb := fun I => by
      have hcov : (lk bm I).isSome = true → (getb st'.bx I).isSome = true := by
        intro hs
        obtain ⟨i, hi'⟩ := Option.isSome_iff_exists.1 hs
        have := List.all_eq_true.1 h2.2 (I, i) (lk_mem hi')
        simpa using this
      cases hl : lk bm I with
      | none =>
        simp only [M.ren, hl]
        cases hg : getb st'.bx I with
        | none => rfl
        | some ls' =>
          obtain ⟨i, ls, e1, _⟩ := hbx I ls' hg
          rw [hl] at e1; cases e1
      | some i =>
        have hg := hcov (by rw [hl]; rfl)
        rw [hg]
        obtain ⟨ls', hg'⟩ := Option.isSome_iff_exists.1 hg
        obtain ⟨i', ls, e1, e2, _⟩ := hbx I ls' hg'
        rw [hl] at e1
        cases e1
        simp only [M.ren, hl]
        rw [hi.nb, e2]; rfl
    env := fun s => AM.sound htm (hem _ h5 s) (hi.env s)
    box := fun I ls' hg => by
      obtain ⟨i, ls, e1, e2, e3⟩ := hbx I ls' hg
      obtain ⟨q0, cs, e, q1, q2⟩ := hi.box i ls e2
      refine ⟨?_, cs, e, by simp only [M.ren, e1]; exact q1, F2.comp (R := LM tm bm) (S := Lr m w) (U := Lr (m.ren tm bm) w) (fun _ _ _ a b => LM.sound htm a b) e3 q2⟩
      have := List.all_eq_true.1 h2.1.1 (I, i) (lk_mem e1)
      simp only [Bool.and_eq_true, Nat.blt_eq] at this
      exact this.1
    blow := fun I ls' hg => by
      obtain ⟨i, ls, e1, e2, e3⟩ := hbx I ls' hg
      simp only [M.ren, e1]; exact hi.blow i ls e2
    binj := fun I J lI lJ hI hJ he => by
      obtain ⟨i, ls, e1, e2, _⟩ := hbx I lI hI
      obtain ⟨j, ls2, f1, f2, _⟩ := hbx J lJ hJ
      simp only [M.ren, e1, f1] at he
      have := hi.binj i j ls ls2 e2 f2 he
      subst this
      exact hbinj I J i e1 f1
    tag := fun T b a hD hρ => by
      obtain ⟨t, a', d1, r1, hc⟩ := hρD T b a hD hρ
      obtain ⟨q1, q2, q3, q4⟩ := hi.tag t b a' d1 r1
      have how : own T ↔ own t := by
        rcases hc with ⟨h50, rfl⟩ | ⟨h50, s, hl⟩
        · exact Iff.rfl
        · exact ⟨fun _ => (htm T t s hl).1, fun _ => (htm T t s hl).2⟩
      refine ⟨q1, fun h => q2 (how.1 h), fun h => q3 (fun h' => h (how.2 h')), fun I lI hI => ?_⟩
      obtain ⟨i, ls, e1, e2, _⟩ := hbx I lI hI
      simp only [M.ren, e1]; exact q4 i ls e2
    blk := fun T b a hD ho hρ => by
      obtain ⟨t, a', d1, r1, hc⟩ := hρD T b a hD hρ
      rcases hc with ⟨h50, rfl⟩ | ⟨h50, s, hl⟩
      · have := hi.blk t b a' d1 ho r1
        simp only [M.ren]
        rw [if_pos h50]
        exact this
      · have := hi.blk t b a' d1 (htm T t s hl).1 r1
        simp only [M.ren]
        rw [if_neg (by omega), hl]
        exact this
    inj := fun T T' b a a' hD hD' ho ho' hρ hρ' => by
      obtain ⟨t, a1, d1, r1, hc⟩ := hρD T b a hD hρ
      obtain ⟨t', a2, d2, r2, hc'⟩ := hρD T' b a' hD' hρ'
      rcases hc with ⟨h50, rfl⟩ | ⟨_, s, hl⟩
      · rcases hc' with ⟨h51, rfl⟩ | ⟨_, s', hl'⟩
        · exact hi.inj t t' b a1 a2 d1 d2 ho ho' r1 r2
        · have := hi.inj t t' b a1 a2 d1 d2 ho (htm T' t' s' hl').1 r1 r2
          have := (hmem T' t' s' hl').2.2
          omega
      rcases hc' with ⟨h50, rfl⟩ | ⟨_, s', hl'⟩
      · have := hi.inj t t' b a1 a2 d1 d2 (htm T t s hl).1 ho' r1 r2
        have := (hmem T t s hl).2.2
        omega
      have := hi.inj t t' b a1 a2 d1 d2 (htm T t s hl).1 (htm T' t' s' hl').1 r1 r2
      subst this
      exact distinct_inj (fun p : Nat × Nat => p.1) h1.2 hl hl' rfl
    fo := fun t ht => by simp only [M.ren]; rw [if_pos (by omega), if_pos (by omega), if_pos (by omega)]; exact hi.fo t ht
    bo := fun I h8 hb => by
      simp only [M.ren] at hb ⊢
      cases hl : lk bm I with
      | none => rw [hl] at hb; cases hb
      | some i =>
        rw [hl] at hb
        have := hb8 I i hl h8
        subst this
        exact hi.bo I h8 hb
    bigb := Nat.le_of_ble_eq_true h28
    nil0 := by simp only [M.ren]; rw [if_pos (by omega)]; exact hi.nil0
    d0 := by simp only [M.ren]; rw [if_pos (by omega)]; exact hi.d0
    big := Nat.le_of_ble_eq_true h4
    sz := by rw [h3]; exact hi.sz }
end Go.Proofs.YtlinhogbnmnhjaaDoor.X

namespace Go.Proofs.YtlinhogbnmnhjaaDoor.X
open Go Go.RowKit
set_option linter.unusedVariables false
set_option linter.unusedSimpArgs false
set_option linter.unusedSectionVars false

def Post {φ : World → Prop} (k : K φ) (Q : Exit → St → Prop) : Exit → Act → World → Prop := fun e a w => ∃ st m, Q e st ∧ Inv k st m a.tmps w ∧ a.defers = []
/-- From the state 'st' the code comes to an exit and a state that 'Q' has. -/
def AW (P : Program) [HasPhi P] (c : Code) (Q : Exit → St → Prop) (st : St) : Prop := ∀ (k : K (HasPhi.Φ P)) m (a : Act) w, Inv k st m a.tmps w → a.defers = [] → c.wp P (Post k Q) a w
def AL (P : Program) [HasPhi P] (ops : Array Oper) (Q : Exit → St → Prop) (l : List Oper) (st : St) : Prop := ∀ (k : K (HasPhi.Φ P)) m (a : Act) w, Inv k st m a.tmps w → a.defers = [] → wpList P ops (Post k Q) l a w
def Th (f : St → Prop) (Q : Exit → St → Prop) : Exit → St → Prop
  | .normal, st => f st
  | e, st => Q e st
def InB (id : Nat) (Q : Exit → St → Prop) : Exit → St → Prop
  | .exit id', st => bif Nat.beq id' id then Q .normal st else Q (.exit id') st
  | e, st => Q e st

theorem Post.mono {φ : World → Prop} {k : K φ} {Q Q' : Exit → St → Prop} (h : ∀ e st, Q e st → Q' e st) {e : Exit} {a : Act} {w : World} (hp : Post k Q e a w) : Post k Q' e a w := by
  obtain ⟨st, m, h1, h2⟩ := hp
  exact ⟨st, m, h _ _ h1, h2⟩

section
variable {P : Program} [HasPhi P] {Q : Exit → St → Prop} {st : St}

theorem AW.mono {c : Code} {Q' : Exit → St → Prop} (h : AW P c Q st) (hq : ∀ e st, Q e st → Q' e st) : AW P c Q' st :=
  fun k m a w hi hd => wp_mono (h k m a w hi hd) fun _ _ _ hp => hp.mono hq

theorem AW_skip (h : Q .normal st) : AW P .skip Q st := fun k m a w hi hd => wp_skip ⟨st, m, h, hi, hd⟩
theorem AW_ret (h : Q .ret st) : AW P .ret Q st := fun k m a w hi hd => wp_ret ⟨st, m, h, hi, hd⟩
theorem AW_exit {id : Nat} (h : Q (.exit id) st) : AW P (.exit id) Q st := fun k m a w hi hd => wp_exit ⟨st, m, h, hi, hd⟩
theorem AW_seq {x y : Code} (h : AW P x (Th (AW P y Q) Q) st) : AW P (.seq x y) Q st := fun k m a w hi hd => by
  refine wp_seq (wp_mono (h k m a w hi hd) ?_)
  rintro e a' w' ⟨st', m', hq, hi', hd'⟩
  cases e with
  | normal => exact hq k m' a' w' hi' hd'
  | _ => exact ⟨st', m', hq, hi', hd'⟩
theorem AW_block {id : Nat} {c : Code} (h : AW P c (InB id Q) st) : AW P (.block id c) Q st := fun k m a w hi hd => by
  refine wp_block (wp_mono (h k m a w hi hd) ?_)
  rintro e a' w' ⟨st', m', hq, hi', hd'⟩
  cases e with
  | exit id' =>
    simp only [InB] at hq
    simp only [Exit.inBlock]
    by_cases he : id' = id
    · subst he
      rw [Nat.beq_refl, cond_true] at hq
      rw [if_pos rfl]
      exact ⟨st', m', hq, hi', hd'⟩
    · rw [beq_false he, cond_false] at hq
      rw [if_neg he]
      exact ⟨st', m', hq, hi', hd'⟩
  | _ => exact ⟨st', m', hq, hi', hd'⟩
theorem AW_cond {s : Nat} {b : Bool} {x y : Code} (hb : get st.env s = .c (false, [.v (.bool b)])) (ht : b = true → AW P x Q st) (hf : b = false → AW P y Q st) : AW P (.cond (.tmp s) x y) Q st := fun k m a w hi hd => by
  have := hi.env s
  rw [hb] at this
  refine wp_cond_split (t := b) ?_ (fun h => ht h k m a w hi hd) (fun h => hf h k m a w hi hd)
  exact this.1
theorem AW_condc {b : Bool} {x y : Code} (ht : b = true → AW P x Q st) (hf : b = false → AW P y Q st) : AW P (.cond (.const (.bool b)) x y) Q st := fun k m a w hi hd =>
  wp_cond_split (t := b) rfl (fun h => ht h k m a w hi hd) (fun h => hf h k m a w hi hd)
theorem AW_weak {c : Code} {st' : St} (tm : TM) (bm : BM) (hs : SM tm bm st st') (h : AW P c Q st') : AW P c Q st := fun k m a w hi hd => h k _ a w (hi.ren hs) hd
theorem AW_region {id : Nat} {l : List Oper} (h : AL P l.toArray Q l st) : AW P (.region id l.toArray false) Q st := fun k m a w hi hd => wp_region_lit (h k m a w hi hd)

/-- A loop: the states at its head are a family with a measure. -/
theorem AW_loop {α : Type} {c : Code} (S : α → St) (μ : α → Nat) (x0 : α) (tm : TM) (bm : BM) (h0 : SM tm bm st (S x0))
    (round : ∀ x, AW P c (Th (fun st' => ∃ x' tm bm, μ x' < μ x ∧ SM tm bm st' (S x')) Q) (S x)) : AW P (.loop c) Q st := by
  intro k m a w hi hd
  have hi0 := hi.ren h0
  clear hi
  generalize m.ren tm bm = m at hi0
  intro b kk cs
  have key : ∀ n x a w m, μ x = n → Inv k (S x) m a.tmps w → a.defers = [] →
      ∃ e a' w', Post k Q e a' w' ∧ Arrives P (lone (b.at a (.code c :: .inLoop c :: kk)) cs w) b kk cs e a' w' := by
    intro n
    induction n using Nat.strongRecOn with
    | _ n ih =>
      intro x a w m hn hi hd
      obtain ⟨e, a₁, w₁, ⟨st', m', hq, hi', hd'⟩, harr⟩ := round x k m a w hi hd b (.inLoop c :: kk) cs
      cases e with
      | normal =>
        obtain ⟨x', tm, bm, hlt, hs⟩ := hq
        obtain ⟨e₂, a₂, w₂, hq₂, harr₂⟩ := ih (μ x') (hn ▸ hlt) x' a₁ w₁ _ rfl (hi'.ren hs) hd'
        exact ⟨e₂, a₂, w₂, hq₂, .of_steps (Steps.trans harr (.one step_inLoop)) harr₂⟩
      | exit id => exact ⟨_, a₁, w₁, ⟨st', m', hq, hi', hd'⟩, .pass (x := .inLoop c) rfl (fun _ _ => .inl (by simp)) harr⟩
      | goto l => exact ⟨_, a₁, w₁, ⟨st', m', hq, hi', hd'⟩, .pass (x := .inLoop c) rfl (fun _ _ => .inl (by simp)) harr⟩
      | ret => exact ⟨_, a₁, w₁, ⟨st', m', hq, hi', hd'⟩, .pass (x := .inLoop c) rfl (fun _ _ => .inl (by simp)) harr⟩
      | panic ch => exact ⟨_, a₁, w₁, ⟨st', m', hq, hi', hd'⟩, .pass (x := .inLoop c) rfl (fun _ _ => .inl (by simp)) harr⟩
      | outgrown => exact ⟨_, a₁, w₁, ⟨st', m', hq, hi', hd'⟩, .pass (x := .inLoop c) rfl (fun _ _ => .inl (by simp)) harr⟩
  obtain ⟨e, a', w', hq, harr⟩ := key _ x0 a w m rfl hi0 hd
  exact ⟨e, a', w', hq, .of_steps (.one step_loop) harr⟩

variable {ops : Array Oper} {rest : List Oper} {o : Oper}

theorem AL_nil (h : Q .normal st) : AL P ops Q [] st := fun k m a w hi hd => wpList_nil ⟨st, m, h, hi, hd⟩
theorem AL_eff {st' : St} (hg : o.guard = none) (he : Eff P o st st') (h : AL P ops Q rest st') : AL P ops Q (o :: rest) st := fun k m a w hi hd =>
  wpList_plain hg fun K' hK => he k m a w hi K' _ fun a' w' m' hi' hd' => hK a' w' (h k m' a' w' hi' (hd'.trans hd))
theorem eff_pv {T : Nat → TI} (hT : TyOK P T) {st' : St} {p : Prop} {v : A} (h : pv T st o = some (p, v)) (hp : p) (h' : st.putD o.dst v = some st') : Eff P o st st' := by
  intro k m a w hi K' Q hK
  obtain ⟨r, hr, hv⟩ := pv_sound hT hi h hp
  exact wp_value hr (hK _ _ m (hi.putD hv h') (put_defers _ _ _))

theorem AL_val {T : Nat → TI} (hT : TyOK P T) {st' : St} {p : Prop} {v : A} (hg : o.guard = none) (he : pv T st o = some (p, v)) (hp : p) (hs : st.putD o.dst v = some st') (h : AL P ops Q rest st') : AL P ops Q (o :: rest) st :=
  AL_eff hg (eff_pv hT he hp hs) h

/-- guards: the value that decides is known -/
def gslot (ops : Array Oper) (j : Nat) : Option Nat := (ops[j]?).bind (·.dst)
theorem yielded_of {φ : World → Prop} {k : K φ} {m : M} {a : Act} {w : World} (hi : Inv k st m a.tmps w) {j d : Nat} {b : Bool} (hd : gslot ops j = some d) (hN : d < st.N) (hb : get st.env d = .c (false, [.v (.bool b)])) : yielded ops a.tmps j = some b := by
  have h1 := hi.env d
  rw [hb] at h1
  have h2 : a.tmps.getD d undef = .bool b := h1.1
  have hlt : d < a.tmps.size := by rw [hi.sz]; exact hN
  unfold yielded
  unfold gslot at hd
  rw [hd]
  have h3 : a.tmps[d]? = some (.bool b) := by
    rw [Array.getElem?_eq_getElem hlt]
    simp only [Array.getD_eq_getD_getElem?, Array.getElem?_eq_getElem hlt, Option.getD_some] at h2
    rw [h2]
  simp [h3]

theorem AL_on {j d : Nat} {want : Bool} (hg : o.guard = some (j, want)) (hd : gslot ops j = some d) (hN : Nat.blt d st.N = true) (hb : get st.env d = .c (false, [.v (.bool want)]))
    (h : AL P ops Q ({ o with guard := none } :: rest) st) : AL P ops Q (o :: rest) st := fun k m a w hi hdf => by
  have hy := yielded_of hi hd (by simpa [Nat.blt_eq] using hN) hb
  have h1 := h k m a w hi hdf
  unfold wpList at h1 ⊢
  have hw : Region.wanted o (yielded ops a.tmps) = true := by simp [Region.wanted, hg, hy]
  have hw' : Region.wanted { o with guard := none } (yielded ops a.tmps) = true := by simp [Region.wanted]
  rw [if_pos hw] 
  rw [if_pos hw'] at h1
  exact h1

theorem AL_off {j d : Nat} {want : Bool} {st' : St} (hg : o.guard = some (j, want)) (hd : gslot ops j = some d) (hN : Nat.blt d st.N = true) (hb : get st.env d = .c (false, [.v (.bool (!want))]))
    (hs : st.putD o.dst .u = some st') (h : AL P ops Q rest st') : AL P ops Q (o :: rest) st := fun k m a w hi hdf => by
  have hy := yielded_of hi hd (by simpa [Nat.blt_eq] using hN) hb
  unfold wpList
  have hw : Region.wanted o (yielded ops a.tmps) = false := by simp [Region.wanted, hg, hy]
  rw [if_neg (by rw [hw]; simp)]
  exact h k m _ w (hi.putD (v := .u) (y := undef) trivial hs) (by rw [put_defers]; exact hdf)

/-- a slot that holds a test that is now decided -/
theorem AL_bool {d : Nat} {b : Bool} (hb : get st.env d = .c (false, [.v (.bool b)])) {l : List Oper}
    (ht : b = true → AL P ops Q l { st with env := (d, .c (false, [.v (.bool true)])) :: st.env }) (hf : b = false → AL P ops Q l { st with env := (d, .c (false, [.v (.bool false)])) :: st.env }) : AL P ops Q l st := fun k m a w hi hdf => by
  have h1 := hi.env d
  rw [hb] at h1
  cases b with
  | true => exact ht rfl k m a w (hi.reput (by exact h1)) hdf
  | false => exact hf rfl k m a w (hi.reput (by exact h1)) hdf

/-- any slot's value written another way -/
theorem AL_as {d : Nat} {v v' : A} (hv : get st.env d = v) (he : v = v') {l : List Oper} (h : AL P ops Q l { st with env := (d, v') :: st.env }) : AL P ops Q l st := fun k m a w hi hdf => by
  have h1 := hi.env d
  rw [hv, he] at h1
  exact h k m a w (hi.reput h1) hdf
end

/-! contracts -/
def pack : List Value → Value
  | [y] => y
  | ys => .tuple ys.toArray

/-- What a call of function 'n' at these arguments comes to: the results' rows with tags from 50 on are new, the others are the arguments' own. -/
def Goes (P : Program) [HasPhi P] (n : Nat) : Prop := ∃ fn, P.funcs[n]? = some fn ∧ (fn.name == "runtime.NumGoroutine") = false ∧ fn.body.isNone = false
def Con (P : Program) [HasPhi P] (n : Nat) (args res : List C) : Prop := Goes P n ∧
  ∀ (m : M) (w : World) (vs : List Value), HasPhi.Φ P w → m.ρ 0 = none → m.D 0 = true → (∀ t, m.D t = true → t < 50) → (∀ t b a, m.D t = true → m.ρ t = some (b, a) → b < w.heap.size) → (∀ i, m.B i = false) →
    F2 (Cr m w) args vs →
    Calls P n vs.toArray w fun e w' => ∃ m' ys, e = .returned (pack ys) ∧ Ext w w' ∧ m.Le m' ∧ F2 (Cr m' w') res ys ∧
      (∀ t b a, 100 ≤ t → m'.D t = true → m'.ρ t = some (b, a) → w.heap.size ≤ b ∧ Blk w' b (m'.L t)) ∧
      (∀ t t' b a a', 100 ≤ t → 100 ≤ t' → m'.D t = true → m'.D t' = true → m'.ρ t = some (b, a) → m'.ρ t' = some (b, a') → t = t') ∧ (∀ t, t < 100 → m'.D t = true → m.D t = true)

def envOf : Nat → List C → Env
  | _, [] => []
  | i, c :: r => (i, .c c) :: envOf (i + 1) r
def st0 (args : List C) (N : Nat) : St := { env := envOf 0 args, bx := [], nx := 100, nb := 8, N := N }
def resC (T : Nat → TI) (st : St) : ResultVar → Option C
  | .tmp t => match get st.env t with
    | .c x => some x
    | _ => none
  | .cell a t => match pvLoad T st t (get st.env a) with
    | some (_, .c x) => some x
    | _ => none
def resCs (T : Nat → TI) (st : St) : List ResultVar → Option (List C)
  | [] => some []
  | r :: rs => match resC T st r, resCs T st rs with
    | some c, some cs => some (c :: cs)
    | _, _ => none
/-- The state at the end holds what the contract says. -/
def Ends (T : Nat → TI) (rs : List ResultVar) (res : List C) (st : St) : Prop := ∃ cs tm, resCs T st rs = some cs ∧ TMok 1000000 tm = true ∧ F2 (CM tm []) cs res
def QR (T : Nat → TI) (rs : List ResultVar) (res : List C) : Exit → St → Prop
  | .ret, st => Ends T rs res st
  | .normal, st => Ends T rs res st
  | _, _ => False

theorem get_envOf : ∀ (i : Nat) (cs : List C) (s : Nat), get (envOf i cs) s = if s < i then .u else match cs[s - i]? with
    | some c => .c c
    | none => .u
  | i, [], s => by simp [envOf, get]
  | i, c :: cs, s => by
    rw [envOf, get_cons, get_envOf (i + 1) cs s]
    by_cases h : s = i
    · subst h; simp
    · by_cases h2 : s < i
      · rw [if_neg h, if_pos (by omega), if_pos h2]
      · rw [if_neg h, if_neg (by omega), if_neg h2]
        obtain ⟨q, hq⟩ : ∃ q, s - i = q + 1 := ⟨s - i - 1, by omega⟩
        rw [hq, show s - (i + 1) = q from by omega]
        simp

def readR (tmps : Array Value) : ResultVar → Sem Value
  | .tmp t => pure (tmps.getD t undef)
  | .cell a t => do loadVar t (← asAddr (tmps.getD a undef))
theorem results_readR (fn : Func) (tmps : Array Value) (P : Program) [HasPhi P] (w : World) : (results fn tmps).run P w = ((fn.results.toList.mapM (readR tmps)).run P w).andThen fun vs w => .ok (if h : vs.toArray.size = 1 then vs.toArray[0] else .tuple vs.toArray) w := by
  have : results fn tmps = (do let vs ← fn.results.mapM (readR tmps); pure (if h : vs.size = 1 then vs[0] else .tuple vs) : Sem Value) := by
    unfold results
    congr 1
  rw [this, Array.mapM_eq_mapM_toList]
  simp only [Sem.run_bind, Sem.run_map, Sem.run_pure]
  cases (List.mapM (readR tmps) fn.results.toList).run P w <;> rfl

theorem run_results {P : Program} [HasPhi P] {T : Nat → TI} (hT : TyOK P T) {φ : World → Prop} {k : K φ} {st : St} {m : M} {a : Act} {w : World} (hi : Inv k st m a.tmps w) : ∀ {rs : List ResultVar} {cs : List C}, resCs T st rs = some cs →
    ∃ ys, (rs.mapM (readR a.tmps)).run P w = .ok ys w ∧ F2 (Cr m w) cs ys
  | [], cs, h => by simp only [resCs, Option.some.injEq] at h; subst h; exact ⟨[], by simp, trivial⟩
  | r :: rs, cs, h => by
    simp only [resCs] at h
    split at h
    · rename_i c cs' h1 h2
      simp only [Option.some.injEq] at h; subst h
      obtain ⟨ys, hr, hf⟩ := run_results hT hi h2
      have hone : ∃ y, (readR a.tmps r).run P w = .ok y w ∧ Cr m w c y := by
        cases r with
        | tmp t =>
          simp only [resC] at h1
          split at h1
          · rename_i x hx
            simp only [Option.some.injEq] at h1; subst h1
            have := hi.env t
            rw [hx] at this
            exact ⟨_, rfl, this⟩
          · cases h1
        | cell b t =>
          simp only [resC] at h1
          split at h1
          · rename_i p x hx
            simp only [Option.some.injEq] at h1; subst h1
            have hb := hi.env b
            obtain ⟨y, hy, hv⟩ := pvLoad_sound hT hi.bx hb hx
            have haddr : ∃ ad, a.tmps.getD b undef = .pointer (some ad) := by
              unfold pvLoad at hx
              split at hx
              · rename_i heq; rw [heq] at hb; exact ⟨_, hb.2⟩
              · rename_i heq; rw [heq] at hb; obtain ⟨_, bb, aa, _, h3, _⟩ := hb; exact ⟨_, h3⟩
              · cases hx
            obtain ⟨ad, had⟩ := haddr
            rw [had] at hy
            simp only [Instr.loadAt, Instr.sureAddr, Sem.run_bind, Sem.run_pure, Result.andThen_ok] at hy
            refine ⟨y, ?_, hv⟩
            simp only [readR, had, asAddr, Sem.run_bind, Sem.run_pure, Result.andThen_ok, hy]
          · cases h1
      obtain ⟨y, hy, hcy⟩ := hone
      exact ⟨y :: ys, by simp only [List.mapM_cons, Sem.run_bind, Sem.run_pure, Result.andThen_ok, hy, hr], hcy, hf⟩
    · cases h

theorem pack_eq (ys : List Value) : (if h : ys.toArray.size = 1 then ys.toArray[0] else .tuple ys.toArray) = pack ys := by
  match ys with
  | [] => rfl
  | [y] => rfl
  | y :: z :: l => simp [pack]

/-- A body that keeps its contract. -/
theorem con_of {P : Program} [HasPhi P] {T : Nat → TI} (hT : TyOK P T) {n : Nat} {fn : Func} {c : Code} (hf : P.funcs[n]? = some fn) (hb : fn.body = some c) (hname : (fn.name == "runtime.NumGoroutine") = false) {args res : List C} (hl : args.length ≤ fn.ntmps)
    (h : AW P c (QR T fn.results.toList res) (st0 args fn.ntmps)) : Con P n args res := by
  refine ⟨⟨fn, hf, hname, by rw [hb]; rfl⟩, ?_⟩
  intro m w vs hphi h0 hd0 hlt hsz hB hargs
  refine calls_of_wp hf hb (wp_mono (h { w0 := w, E := fun _ => False, m0 := m, sta := fun w' a1 a2 a3 a4 a5 => HasPhi.ext a1 a2 a3 a4 (fun b hb => a5 b ⟨hb, id⟩) hphi } m _ w ?_ rfl) ?_)
  · have hlen := F2.len hargs
    exact {
      os := rfl, tape := rfl, output := rfl, size := Nat.le_refl _, old := fun _ _ => rfl
      n := fun t ht => by have := hlt t ht; show t < 100; omega
      nb := fun i => by rw [hB]; rfl
      env := fun s => by
        show Ar m w (get (envOf 0 args) s) _
        rw [get_envOf, if_neg (by omega)]
        cases hc : args[s - 0]? with
        | none => trivial
        | some c' =>
          obtain ⟨y, hy, hr⟩ := F2.get hargs hc
          have : (vs.toArray ++ Array.replicate (fn.ntmps - vs.toArray.size) undef).getD s undef = y := by
            have hs : s < vs.length := (List.getElem?_eq_some_iff.1 hy).1
            simp only [Nat.sub_zero] at hy
            simp [Array.getD_eq_getD_getElem?, Array.getElem?_append, hs]
            rw [List.getElem?_eq_getElem hs] at hy
            simpa using hy
          simp only
          rw [this]; exact hr
      box := fun i ls h => by cases h
      blow := fun i ls h => by cases h
      binj := fun i j l1 l2 h => by cases h
      tag := fun t b a hd hρ => by
        have h1 := hlt t hd
        refine ⟨hsz t b a hd hρ, fun ho => ?_, fun _ => ⟨hsz t b a hd hρ, id⟩, fun i ls h => by cases h⟩
        unfold own at ho; omega
      blk := fun t b a hd ho => by have h1 := hlt t hd; unfold own at ho; omega
      inj := fun t t' b a a' hd _ ho => by have h1 := hlt t hd; unfold own at ho; omega
      fo := fun _ _ => ⟨rfl, rfl, rfl⟩
      bo := fun _ _ h => ⟨h, rfl⟩
      bigb := Nat.le_refl _
      nil0 := h0
      d0 := hd0
      big := Nat.le_refl _
      sz := by
        show (vs.toArray ++ Array.replicate (fn.ntmps - vs.toArray.size) undef).size = fn.ntmps
        simp; omega }
  · rintro e a' w' ⟨st, m', hq, hi, hdf⟩
    have hfin : Ends T fn.results.toList res st → a'.defers = [] ∧ ∃ v, (results fn a'.tmps).run P w' = .ok v w' ∧ ∃ m' ys, Ending.returned v = .returned (pack ys) ∧ Ext w w' ∧ m.Le m' ∧ F2 (Cr m' w') res ys ∧
      (∀ t b a, 100 ≤ t → m'.D t = true → m'.ρ t = some (b, a) → w.heap.size ≤ b ∧ Blk w' b (m'.L t)) ∧
      (∀ t t' b a a', 100 ≤ t → 100 ≤ t' → m'.D t = true → m'.D t' = true → m'.ρ t = some (b, a) → m'.ρ t' = some (b, a') → t = t') ∧ (∀ t, t < 100 → m'.D t = true → m.D t = true) := by
      rintro ⟨cs, tm, h1, h2, h3⟩
      obtain ⟨ys, hr, hf⟩ := run_results hT hi h1
      have htm := h2
      simp only [TMok, Bool.and_eq_true] at htm
      have hmem : ∀ T t s, lk tm T = some (t, s) → 100 ≤ T ∧ 100 ≤ t := by
        intro T t s hl
        have := List.all_eq_true.1 htm.1 (T, t, s) (lk_mem hl)
        simp only [Bool.and_eq_true, Nat.blt_eq] at this
        exact ⟨Nat.le_of_ble_eq_true this.1.1, Nat.le_of_ble_eq_true this.2⟩
      have hown : ∀ T t s, lk tm T = some (t, s) → own t ∧ own T := fun T t s hl => ⟨Nat.le_trans (by omega) (hmem T t s hl).2, Nat.le_trans (by omega) (hmem T t s hl).1⟩
      have hfresh : ∀ T b a, 100 ≤ T → (m'.ren tm []).D T = true → (m'.ren tm []).ρ T = some (b, a) → ∃ t s a', lk tm T = some (t, s) ∧ m'.D t = true ∧ m'.ρ t = some (b, a') := by
        intro T b a hT hD hρ
        simp only [M.ren] at hD hρ
        rw [if_neg (by omega)] at hD hρ
        cases hl : lk tm T with
        | none => rw [hl] at hD; cases hD
        | some p =>
          obtain ⟨t, s⟩ := p
          rw [hl] at hD hρ
          obtain ⟨q, hq, he⟩ := map_some' hρ
          obtain ⟨b', a'⟩ := q
          simp only [Prod.mk.injEq] at he
          obtain ⟨rfl, _⟩ := he
          exact ⟨t, s, a', rfl, hD, hq⟩
      refine ⟨hdf, pack ys, ?_, m'.ren tm [], ys, rfl, ?_, ?_, ?_, ?_, ?_, ?_⟩
      · rw [results_readR, hr]
        simp only [Result.andThen_ok, pack_eq]
      · exact ⟨hi.os, hi.tape, hi.output, hi.size, fun b hb => hi.old b ⟨hb, id⟩⟩
      · have h50 : ∀ t, m.D t = true → t < 50 := hlt
        refine ⟨fun t ht => ?_, (fun i hi' => absurd hi' (by simp [hB])), fun t ht => ?_, fun t ht => ?_, (fun i hi' => absurd hi' (by simp [hB]))⟩
        · have := h50 t ht; simp only [M.ren]; rw [if_pos (by omega), (hi.fo t (by omega)).1]; exact ht
        · have := h50 t ht; simp only [M.ren]; rw [if_pos (by omega), (hi.fo t (by omega)).2.1]
        · have := h50 t ht; simp only [M.ren]; rw [if_pos (by omega), (hi.fo t (by omega)).2.2]
      · exact F2.comp (R := CM tm []) (S := Cr m' w') (U := Cr (m'.ren tm []) w') (fun _ _ _ a b => CM.sound hown a b) h3 hf
      · intro T b a hT hD hρ
        obtain ⟨t, s, a', hl, hD', hρ'⟩ := hfresh T b a hT hD hρ
        refine ⟨?_, ?_⟩
        · have := (hi.tag t b a' hD' hρ').2.1 (hown T t s hl).1
          rcases Nat.lt_or_ge b w.heap.size with h | h
          · exact (this ⟨h, id⟩).elim
          · exact h
        · have := hi.blk t b a' hD' (hown T t s hl).1 hρ'
          simp only [M.ren]; rw [if_neg (by omega), hl]; exact this
      · intro T T' b a a' hT hT' hD hD' hρ hρ'
        obtain ⟨t, s, a1, hl, d1, r1⟩ := hfresh T b a hT hD hρ
        obtain ⟨t', s', a2, hl', d2, r2⟩ := hfresh T' b a' hT' hD' hρ'
        have := hi.inj t t' b a1 a2 d1 d2 (hown T t s hl).1 (hown T' t' s' hl').1 r1 r2
        subst this
        exact distinct_inj (fun p : Nat × Nat => p.1) htm.2 hl hl' rfl
      · intro t ht hD
        simp only [M.ren] at hD; rw [if_pos ht] at hD; exact (hi.wo t ht hD).1
    cases e with
    | ret => exact hfin hq
    | normal => exact hfin hq
    | _ => exact hq.elim
end Go.Proofs.YtlinhogbnmnhjaaDoor.X

namespace Go.Proofs.YtlinhogbnmnhjaaDoor.X
open Go Go.RowKit
set_option linter.unusedVariables false
set_option linter.unusedSimpArgs false
set_option linter.unusedSectionVars false

def argsC (T : Nat → TI) (st : St) : List Operand → List Nat → Option (List C)
  | [], _ => some []
  | x :: r, t :: ts => match opnd T st t x, argsC T st r ts with
    | .c c, some cs => some (c :: cs)
    | _, _ => none
  | _ :: _, [] => none
/-- the arguments as the contract numbers them: tag 'T' of the contract is 't' here, 's' cells further on -/
def LMa (tm : TM) : L → L → Prop
  | .v x, .v y => x = y
  | .sl z t o xs, .sl z' T O ys => z = z' ∧ xs = ys ∧ ∃ s, o * z = s + O * z ∧ lk tm T = some (t, s)
  | _, _ => False
def CMa (tm : TM) : C → C → Prop
  | (b, ls), (b', ls') => b = b' ∧ F2 (LMa tm) ls ls'
/-- the results: tag 't' here is 'T' of the contract -/
def LMr (tm : TM) (tr : BM) : L → L → Prop
  | .v x, .v y => x = y
  | .sl z T O xs, .sl z' t o ys => z = z' ∧ xs = ys ∧ (bif Nat.beq T 0 then t = 0 ∧ o = O else bif Nat.blt T 100 then ∃ s, lk tm T = some (t, s) ∧ o * z = s + O * z else lk tr t = some T ∧ o = O)
  | _, _ => False
def CMr (tm : TM) (tr : BM) : C → C → Prop
  | (b, ls), (b', ls') => b = b' ∧ F2 (LMr tm tr) ls ls'
def TAok (tm : TM) : Bool := tm.all fun p => Nat.ble 1 p.1 && Nat.blt p.1 50
def TRok (τ : Nat) (tr : BM) : Bool := tr.all (fun p => Nat.ble τ p.1 && Nat.blt p.1 (τ + 16) && Nat.ble 100 p.2) && distinct (tr.map fun p => p.2)
def resA : List C → A
  | [c] => .c c
  | cs => .tup cs

def M.sub (m : M) (tm : TM) : M where
  ρ T := match lk tm T with
    | some (t, s) => (m.ρ t).map fun p => (p.1, p.2 + s)
    | none => none
  β _ := 0
  D T := match lk tm T with
    | some (t, _) => m.D t
    | none => Nat.beq T 0
  B _ := false
  L T := match lk tm T with
    | some (t, _) => m.L t
    | none => 0
def M.sup (m m2 : M) (tr : BM) : M where
  ρ t := match lk tr t with
    | some T => m2.ρ T
    | none => m.ρ t
  β := m.β
  D t := match lk tr t with
    | some T => m2.D T
    | none => m.D t
  B := m.B
  L t := match lk tr t with
    | some T => m2.L T
    | none => m.L t

theorem lk_all {α : Type} {p : Nat × α → Bool} {l : List (Nat × α)} (h : l.all p = true) {t : Nat} {v : α} (hl : lk l t = some v) : p (t, v) = true := List.all_eq_true.1 h _ (lk_mem hl)

theorem LMa.sound {m : M} {w : World} {tm : TM} (htm : TAok tm = true) {l l' : L} {y : Value} (hl : LMa tm l l') (h : Lr m w l y) : Lr (m.sub tm) w l' y := by
  cases l' with
  | v x' => cases l <;> simp only [LMa] at hl; subst hl; exact h
  | sl z' T O ys =>
    cases l <;> simp only [LMa] at hl
    rename_i z t o xs
    obtain ⟨rfl, rfl, s, hs, ht⟩ := hl
    obtain ⟨h1, h2⟩ := h
    refine ⟨by simp [M.sub, ht, h1], ?_⟩
    rcases h2 with ⟨g1, g2, g3⟩ | ⟨b, a, c, p, g1, g2, g3, g4, g5, g6⟩
    · exact .inl ⟨by simp [M.sub, ht, g1], g2, g3⟩
    · refine .inr ⟨b, a + s, c, p, by simp [M.sub, ht, g1], g2, fun hc => by rw [g3 hc, hs]; omega, g4, by rw [show a + s + O * z = a + o * z from by omega]; exact g5, ?_⟩
      simp only [M.sub, ht]
      rw [Nat.add_mul] at g6 ⊢
      omega
  | x => cases l <;> simp only [LMa] at hl
  | pt => cases l <;> simp only [LMa] at hl
  | ep => cases l <;> simp only [LMa] at hl

theorem F2.comp2 {α γ δ : Type} {R : α → γ → Prop} {S : α → δ → Prop} {U : γ → δ → Prop} (h : ∀ a b c, R a b → S a c → U b c) {l : List α} {r : List γ} {s : List δ} (h1 : F2 R l r) (h2 : F2 S l s) : F2 U r s := F2.comp h h1 h2

theorem Cr.via {m m' : M} {w w' : World} {R : L → L → Prop} (hR : ∀ l l' y, R l l' → Lr m w l y → Lr m' w' l' y) {c c' : C} {y : Value} (hc : c.1 = c'.1 ∧ F2 R c.2 c'.2) (h : Cr m w c y) : Cr m' w' c' y := by
  obtain ⟨b, ls⟩ := c
  obtain ⟨b', ls'⟩ := c'
  obtain ⟨hb, hf⟩ := hc
  simp only at hb hf
  subst hb
  cases b with
  | true => obtain ⟨vs, rfl, h2⟩ := h; exact ⟨vs, rfl, F2.comp (R := R) (S := Lr m w) (U := Lr m' w') hR hf h2⟩
  | false =>
    match ls, ls', hf, h with
    | [l], [l'], hf, h => exact hR _ _ _ hf.1 h

section
variable {P : Program} [HasPhi P] {T : Nat → TI}

theorem argsC_sound (hT : TyOK P T) {φ : World → Prop} {k : K φ} {st : St} {m : M} {a : Act} {w : World} (hi : Inv k st m a.tmps w) : ∀ {xs : List Operand} {ts : List Nat} {cs : List C}, argsC T st xs ts = some cs → F2 (Cr m w) cs (xs.map a.eval)
  | [], _, cs, h => by simp only [argsC, Option.some.injEq] at h; subst h; trivial
  | x :: xs, [], cs, h => by simp [argsC] at h
  | x :: xs, t :: ts, cs, h => by
    simp only [argsC] at h
    split at h
    · rename_i c cs' h1 h2
      simp only [Option.some.injEq] at h; subst h
      have := opnd_inv hT hi t x
      rw [h1] at this
      exact ⟨this, argsC_sound hT hi h2⟩
    · cases h

theorem mono_call (hT : TyOK P T) {st st' : St} {o : Oper} {n τ κ : Nat} {az : Array Operand} {ts : Array Nat} {cs args res rs : List C} (tm : TM) (tr : BM)
    (ho : o.op = .call { callee := .value (.func n), args := az, argTypes := ts }) (hcon : Con P n args res) (hcs : argsC T st az.toList ts.toList = some cs)
    (htm : TAok tm = true) (ha : F2 (CMa tm) cs args) (htr : TRok τ tr = true) (hr : F2 (CMr tm tr) res rs)
    (h' : st.putD o.dst (resA rs) = some st') : Mono P o st τ κ st' := by
  intro k m a w hi hD hτ hτ5 hκ hκ2 K' Q hK
  obtain ⟨⟨fn, hfn, hname, hbody⟩, hcon⟩ := hcon
  have hvs := argsC_sound hT hi hcs
  have hargs : F2 (Cr (m.sub tm) w) args (az.toList.map a.eval) := F2.comp (R := CMa tm) (S := Cr m w) (U := Cr (m.sub tm) w) (fun c c' y h1 h2 => Cr.via (R := LMa tm) (fun l l' y a b => LMa.sound htm a b) h1 h2) ha hvs
  have hkeyA : ∀ T t s, lk tm T = some (t, s) → 1 ≤ T ∧ T < 50 := fun T t s h => by
    have := lk_all htm h
    simp only [Bool.and_eq_true, Nat.blt_eq] at this
    exact ⟨Nat.le_of_ble_eq_true this.1, this.2⟩
  have hcall := hcon (m.sub tm) w (az.toList.map a.eval) (k.sta w hi.os hi.tape hi.output hi.size hi.old) (by
      simp only [M.sub]
      cases hl : lk tm 0 with
      | none => rfl
      | some p => have := hkeyA 0 p.1 p.2 hl; omega) (by
      simp only [M.sub]
      cases hl : lk tm 0 with
      | none => rfl
      | some p => have := hkeyA 0 p.1 p.2 hl; omega) (fun t ht => by
      simp only [M.sub] at ht
      cases hl : lk tm t with
      | none => rw [hl] at ht; have := Nat.eq_of_beq_eq_true ht; omega
      | some p => exact (hkeyA t p.1 p.2 hl).2) (fun t b q ht hρ => by
      simp only [M.sub] at ht hρ
      cases hl : lk tm t with
      | none => rw [hl] at hρ; cases hρ
      | some p =>
        rw [hl] at ht hρ
        obtain ⟨u, hu, he⟩ := map_some' hρ
        simp only [Prod.mk.injEq] at he
        have := (hi.tag p.1 u.1 u.2 ht hu).1
        omega) (fun _ => rfl) hargs
  have hrun : (execOp a.eval o).run P w = .ok (.enter n (az.toList.map a.eval).toArray) w := by
    have hb' : ¬ fn.body = none := by intro h; rw [h] at hbody; cases hbody
    have hname' : ¬ fn.name = "runtime.NumGoroutine" := by simpa using hname
    cases az
    simp [execOp, ho, resolve, Act.eval, Deferred.ofValue, invoke, callFunc, hfn, hname', hb']
  unfold Oper.wp
  rw [hrun]
  show Calls P n _ w _
  refine hcall.mono ?_
  rintro e w' ⟨m2, ys, rfl, hx, hle, hf, hnew, hinj, hold⟩
  have hkeyR : ∀ t T, lk tr t = some T → τ ≤ t ∧ t < τ + 16 ∧ 100 ≤ T := fun t T h => by
    simp only [TRok, Bool.and_eq_true] at htr
    have := lk_all htr.1 h
    simp only [Bool.and_eq_true, Nat.blt_eq] at this
    exact ⟨Nat.le_of_ble_eq_true this.1.1, this.1.2, Nat.le_of_ble_eq_true this.2⟩
  have hnone : ∀ t, m.D t = true → lk tr t = none := fun t ht => by
    cases hl : lk tr t with
    | none => rfl
    | some T =>
      obtain ⟨g1, g2, g3⟩ := hkeyR t T hl
      have := hD (t - τ) (by omega)
      rw [show τ + (t - τ) = t from by omega, ht] at this
      cases this
  have hmle : m.Le (m.sup m2 tr) := ⟨fun t ht => by simp only [M.sup, hnone t ht]; exact ht, fun _ h => h, fun t ht => by simp only [M.sup, hnone t ht], fun t ht => by simp only [M.sup, hnone t ht], fun _ _ => rfl⟩
  have hkeep : ∀ l y, Lr m w l y → Lr (m.sup m2 tr) w' l y := fun l y h => hi.lr_ext hx hmle h
  have hcase : ∀ t, (m.sup m2 tr).D t = true → (m.D t = true ∧ (m.sup m2 tr).ρ t = m.ρ t ∧ (m.sup m2 tr).L t = m.L t) ∨ (∃ T, lk tr t = some T ∧ m2.D T = true ∧ (m.sup m2 tr).ρ t = m2.ρ T ∧ (m.sup m2 tr).L t = m2.L T) := fun t ht => by
    simp only [M.sup] at ht ⊢
    cases hl : lk tr t with
    | none => rw [hl] at ht; exact .inl ⟨ht, rfl, rfl⟩
    | some T => rw [hl] at ht; exact .inr ⟨T, rfl, ht, rfl, rfl⟩
  have hI : Inv k st (m.sup m2 tr) a.tmps w' := {
    os := hx.os.trans hi.os, tape := hx.tape.trans hi.tape, output := hx.output.trans hi.output
    size := Nat.le_trans hi.size hx.size
    old := fun b hb => (hx.block b (K.low_lt hi hb)).trans (hi.old b hb)
    n := fun t ht => by
      rcases hcase t ht with ⟨h1, _⟩ | ⟨T, h1, _⟩
      · exact hi.n t h1
      · have := hkeyR t T h1; omega
    nb := hi.nb
    env := fun s => (hi.env s).imp hkeep
    box := fun i ls h => by
      obtain ⟨h0, cs', e', h1, h2⟩ := hi.box i ls h
      exact ⟨h0, cs', e', by
        show w'.heap[m.β i]? = _
        rw [hx.block _ (Array.getElem?_eq_some_iff.1 h1).1]; exact h1, F2.imp hkeep h2⟩
    blow := hi.blow
    binj := hi.binj
    tag := fun t b q ht hρ => by
      rcases hcase t ht with ⟨h1, h2, _⟩ | ⟨T, h1, h2, h3, _⟩
      · rw [h2] at hρ
        obtain ⟨g1, g2⟩ := hi.tag t b q h1 hρ
        exact ⟨Nat.lt_of_lt_of_le g1 hx.size, g2⟩
      · rw [h3] at hρ
        obtain ⟨k1, k2, k3⟩ := hkeyR t T h1
        obtain ⟨n1, cs9, e9, n2, _⟩ := hnew T b q k3 h2 hρ
        refine ⟨(Array.getElem?_eq_some_iff.1 n2).1, fun _ hl => ?_, fun hno => ?_, fun i ls hls he => ?_⟩
        · have := K.low_lt hi hl; omega
        · exact (hno (show 50 ≤ t by omega)).elim
        · have := hi.box_lt hls
          have he' : m.β i = b := he
          omega
    blk := fun t b q ht ho hρ => by
      rcases hcase t ht with ⟨h1, h2, h3⟩ | ⟨T, h1, h2, h3, h4⟩
      · rw [h2] at hρ; rw [h3]
        exact (hi.blk t b q h1 ho hρ).same (hx.block b (hi.tag t b q h1 hρ).1)
      · rw [h3] at hρ; rw [h4]
        exact (hnew T b q (hkeyR t T h1).2.2 h2 hρ).2
    inj := fun t t' b q q' ht ht' ho ho' hρ hρ' => by
      rcases hcase t ht with ⟨h1, h2, h3⟩ | ⟨T, h1, h2, h3, h4⟩ <;> rcases hcase t' ht' with ⟨g1, g2, g3⟩ | ⟨T', g1, g2, g3, g4⟩
      · rw [h2] at hρ; rw [g2] at hρ'
        exact hi.inj t t' b q q' h1 g1 ho ho' hρ hρ'
      · rw [h2] at hρ; rw [g3] at hρ'
        have := (hi.tag t b q h1 hρ).1
        have := (hnew T' b q' (hkeyR t' T' g1).2.2 g2 hρ').1
        omega
      · rw [h3] at hρ; rw [g2] at hρ'
        have := (hi.tag t' b q' g1 hρ').1
        have := (hnew T b q (hkeyR t T h1).2.2 h2 hρ).1
        omega
      · rw [h3] at hρ; rw [g3] at hρ'
        have := hinj T T' b q q' (hkeyR t T h1).2.2 (hkeyR t' T' g1).2.2 h2 g2 hρ hρ'
        subst this
        simp only [TRok, Bool.and_eq_true] at htr
        exact distinct_inj (fun p : Nat => p) htr.2 h1 g1 rfl
    fo := fun t ht => by
      have : lk tr t = none := by
        cases hl : lk tr t with
        | none => rfl
        | some T => have := hkeyR t T hl; omega
      simp only [M.sup, this]; exact hi.fo t ht
    bo := hi.bo
    bigb := hi.bigb
    nil0 := by simp only [M.sup, hnone 0 hi.d0]; exact hi.nil0
    d0 := by simp only [M.sup, hnone 0 hi.d0]; exact hi.d0
    big := hi.big
    sz := hi.sz }
  have hres : F2 (Cr (m.sup m2 tr) w') rs ys := by
    refine F2.comp (R := CMr tm tr) (S := Cr m2 w') (U := Cr (m.sup m2 tr) w') (fun c c' y h1 h2 => Cr.via (R := LMr tm tr) ?_ h1 h2) hr hf
    intro l l' y hl h
    cases l' with
    | v x' => cases l <;> simp only [LMr] at hl; subst hl; exact h
    | x => cases l <;> simp only [LMr] at hl
    | pt => cases l <;> simp only [LMr] at hl
    | ep => cases l <;> simp only [LMr] at hl
    | sl z' t o ys' =>
      cases l <;> simp only [LMr] at hl
      rename_i z T O xs
      obtain ⟨rfl, rfl, hl⟩ := hl
      obtain ⟨h1, h2⟩ := h
      by_cases hT0 : T = 0
      · subst hT0
        simp only [Nat.beq_refl, cond_true] at hl
        obtain ⟨rfl, rfl⟩ := hl
        refine ⟨hmle.D 0 hi.d0, .inl ?_⟩
        have h00 : m2.ρ 0 = none := by
          have hsub0 : (m.sub tm).D 0 = true ∧ (m.sub tm).ρ 0 = none := by
            simp only [M.sub]
            cases hl : lk tm 0 with
            | none => exact ⟨rfl, rfl⟩
            | some p => have := hkeyA 0 p.1 p.2 hl; omega
          rw [hle.ρ 0 hsub0.1]; exact hsub0.2
        rcases h2 with ⟨g1, g2, g3⟩ | ⟨b, q, c, p, g1, _⟩
        · exact ⟨by rw [hmle.ρ 0 hi.d0]; exact hi.nil0, g2, g3⟩
        · rw [h00] at g1; cases g1
      · rw [beq_false hT0, cond_false] at hl
        by_cases hT5 : T < 100
        · rw [show Nat.blt T 100 = true from by simpa [Nat.blt_eq] using hT5, cond_true] at hl
          obtain ⟨s, hl1, hl2⟩ := hl
          have hsD : (m.sub tm).D T = true := hold T hT5 h1
          have hρ2 : m2.ρ T = (m.ρ t).map fun p => (p.1, p.2 + s) := by rw [hle.ρ T hsD]; simp only [M.sub, hl1]
          have hL2 : m2.L T = m.L t := by rw [hle.L T hsD]; simp only [M.sub, hl1]
          have hDt : m.D t = true := by simpa only [M.sub, hl1] using hsD
          refine ⟨hmle.D t hDt, ?_⟩
          rw [hmle.ρ t hDt, hmle.L t hDt]
          rcases h2 with ⟨g1, g2, g3⟩ | ⟨b, q, c, p, g1, g2, g3, g4, g5, g6⟩
          · rw [hρ2] at g1
            cases hm : m.ρ t with
            | none => exact .inl ⟨rfl, g2, g3⟩
            | some p => rw [hm] at g1; cases g1
          · rw [hρ2] at g1
            obtain ⟨u, hu, he⟩ := map_some' g1
            obtain ⟨b', q'⟩ := u
            simp only [Prod.mk.injEq] at he
            obtain ⟨rfl, rfl⟩ := he
            rw [hL2] at g6
            refine .inr ⟨b', q', c, p, hu, g2, fun hc => by rw [g3 hc]; omega, g4, by rw [show q' + o * z = q' + s + O * z from by omega]; exact g5, ?_⟩
            rw [Nat.add_mul] at g6 ⊢
            omega
        · rw [show Nat.blt T 100 = false from by cases hb : Nat.blt T 100 with | false => rfl | true => exact absurd (by simpa [Nat.blt_eq] using hb) hT5, cond_false] at hl
          obtain ⟨hl1, rfl⟩ := hl
          have e1 : (m.sup m2 tr).D t = m2.D T := by simp only [M.sup, hl1]
          have e2 : (m.sup m2 tr).ρ t = m2.ρ T := by simp only [M.sup, hl1]
          have e3 : (m.sup m2 tr).L t = m2.L T := by simp only [M.sup, hl1]
          exact ⟨by rw [e1]; exact h1, by rw [e2, e3]; exact h2⟩
  have hv : Ar (m.sup m2 tr) w' (resA rs) (pack ys) := by
    match rs, ys, hres with
    | [], [], _ => exact ⟨_, rfl, trivial⟩
    | [c], [y], h => exact h.1
    | c :: d :: l, y :: z :: ys, h => exact ⟨_, rfl, h⟩
  refine hK _ _ _ (hI.putD hv h') (put_defers _ _ _) fun t ht hDt => ?_
  rcases hcase t hDt with ⟨h1, _⟩ | ⟨T, h1, _⟩
  · exact h1
  · have := hkeyR t T h1; omega
end
end Go.Proofs.YtlinhogbnmnhjaaDoor.X

namespace Go.Proofs.YtlinhogbnmnhjaaDoor.X
open Go Go.RowKit
set_option linter.unusedVariables false
set_option linter.unusedSimpArgs false
set_option linter.unusedSectionVars false

/-! regions whose order is drawn -/
structure Sm (s t : St) : Prop where
  env : ∀ x, get s.env x = get t.env x
  bx : ∀ x, getb s.bx x = getb t.bx x
  nx : s.nx = t.nx
  nb : s.nb = t.nb
  N : s.N = t.N
theorem Sm.refl (s : St) : Sm s s := ⟨fun _ => rfl, fun _ => rfl, rfl, rfl, rfl⟩
theorem Inv.sm {φ : World → Prop} {k : K φ} {s t : St} {m : M} {tm : Array Value} {w : World} (hi : Inv k s m tm w) (h : Sm s t) : Inv k t m tm w :=
  { hi with
    n := fun x hx => by rw [← h.nx]; exact hi.n x hx
    nb := fun i => by rw [← h.bx]; exact hi.nb i
    env := fun s => by rw [← h.env]; exact hi.env s
    box := fun i ls hl => by rw [← h.nb]; rw [← h.bx] at hl; exact hi.box i ls hl
    blow := fun i ls hl => by rw [← h.bx] at hl; exact hi.blow i ls hl
    binj := fun i j l1 l2 a b => by rw [← h.bx] at a b; exact hi.binj i j l1 l2 a b
    tag := fun t b a hd hr => by
      obtain ⟨h1, h2, h3, h4⟩ := hi.tag t b a hd hr
      exact ⟨h1, h2, h3, fun i ls hl => by rw [← h.bx] at hl; exact h4 i ls hl⟩
    big := by rw [← h.nx]; exact hi.big
    bigb := by rw [← h.nb]; exact hi.bigb
    sz := by rw [← h.N]; exact hi.sz }

/-- What an operation writes: a value and a variable's cells; or all is as in a state. -/
inductive Wr where
  | loc (v : A) (bw : Option (Nat × List L)) (rb : List Nat)
  | bar (st : St)
def app (o : Oper) (st : St) : Wr → St
  | .loc v bw _ => { st with env := match o.dst with | some d => (d, v) :: st.env | none => st.env, bx := match bw with | some p => p :: st.bx | none => st.bx }
  | .bar s => s
def seqS (b : St) : List (Oper × Wr) → St
  | [] => b
  | (o, x) :: r => app o (seqS b r) x
def SE (E : Nat → Bool) (b : St) : List (Oper × Wr) → St
  | [] => b
  | (o, x) :: r => if E r.length then app o (SE E b r) x else SE E b r

def opS (x : Operand) : Option Nat := match x with
  | .tmp s => some s
  | _ => none
/-- the slots that an operation reads -/
def rdS (ops : Array Oper) (o : Oper) : List Nat := o.op.operands.toList.filterMap opS ++ match o.guard with
  | some (j, _) => (gslot ops j).toList
  | none => []
def writesS (o : Oper) (w : Wr) (s : Nat) : Bool := match w, o.dst with
  | .bar _, _ => true
  | _, some d => Nat.beq d s
  | _, none => false
def writesB (κ : Nat) (w : Wr) (b : Nat) : Bool := Nat.beq κ b || match w with
  | .bar _ => true
  | .loc _ (some p) _ => Nat.beq p.1 b
  | .loc _ none _ => false

theorem app_get {o : Oper} {w : Wr} {s t : St} (x : Nat) (h : writesS o w x = false) : get (app o s w).env x = get s.env x := by
  cases w with
  | bar _ => simp [writesS] at h
  | loc v bw rb =>
    simp only [app, writesS] at h ⊢
    cases hd : o.dst with
    | none => rfl
    | some d =>
      rw [hd] at h
      simp only at h ⊢
      rw [get_cons, if_neg]
      rintro rfl; simp at h
theorem app_getb {o : Oper} {w : Wr} {s : St} {κ : Nat} (x : Nat) (h : writesB κ w x = false) : getb (app o s w).bx x = getb s.bx x := by
  cases w with
  | bar _ => simp [writesB] at h
  | loc v bw rb =>
    simp only [app, writesB, Bool.or_eq_false_iff] at h ⊢
    cases bw with
    | none => rfl
    | some p =>
      obtain ⟨p1, p2⟩ := p
      simp only at h ⊢
      rw [getb_cons, if_neg]
      rintro rfl; simp at h
theorem app_get2 {o : Oper} {w : Wr} {s t : St} (x : Nat) (h : get s.env x = get t.env x) : get (app o s w).env x = get (app o t w).env x := by
  cases w with
  | bar _ => rfl
  | loc v bw rb =>
    simp only [app]
    cases o.dst with
    | none => exact h
    | some d => simp only [get_cons, h]
theorem app_getb2 {o : Oper} {w : Wr} {s t : St} (x : Nat) (h : getb s.bx x = getb t.bx x) : getb (app o s w).bx x = getb (app o t w).bx x := by
  cases w with
  | bar _ => rfl
  | loc v bw rb =>
    simp only [app]
    cases bw with
    | none => exact h
    | some p => obtain ⟨p1, p2⟩ := p; simp only [getb_cons, h]
theorem app_n {o : Oper} {w : Wr} {s t : St} (h : s.nx = t.nx ∧ s.nb = t.nb ∧ s.N = t.N) : (app o s w).nx = (app o t w).nx ∧ (app o s w).nb = (app o t w).nb ∧ (app o s w).N = (app o t w).N := by
  cases w with
  | bar _ => exact ⟨rfl, rfl, rfl⟩
  | loc v bw rb => exact h

/-- States agree at what the sets of done operations agree on. -/
theorem SE_get {b : St} {E E' : Nat → Bool} (x : Nat) : ∀ {l : List (Oper × Wr)}, (∀ r o w, (∃ p, l = p ++ (o, w) :: r) → writesS o w x = true → E r.length = E' r.length) → get (SE E b l).env x = get (SE E' b l).env x
  | [], _ => rfl
  | (o, w) :: r, h => by
    have ih := SE_get (b := b) (E := E) (E' := E') x (l := r) fun r' o' w' ⟨p, hp⟩ => h r' o' w' ⟨(o, w) :: p, by rw [hp]; rfl⟩
    simp only [SE]
    cases hw : writesS o w x with
    | true =>
      rw [h r o w ⟨[], rfl⟩ hw]
      split
      · exact app_get2 x ih
      · exact ih
    | false =>
      have h1 : ∀ s : St, get (app o s w).env x = get s.env x := fun s => app_get (t := s) x hw
      split <;> split <;> simp only [h1, ih]
theorem SE_getb {b : St} {E E' : Nat → Bool} (nb : Nat) (x : Nat) : ∀ {l : List (Oper × Wr)}, (∀ r o w, (∃ p, l = p ++ (o, w) :: r) → writesB (nb + r.length) w x = true → E r.length = E' r.length) → getb (SE E b l).bx x = getb (SE E' b l).bx x
  | [], _ => rfl
  | (o, w) :: r, h => by
    have ih := SE_getb (b := b) (E := E) (E' := E') nb x (l := r) fun r' o' w' ⟨p, hp⟩ => h r' o' w' ⟨(o, w) :: p, by rw [hp]; rfl⟩
    simp only [SE]
    cases hw : writesB (nb + r.length) w x with
    | true =>
      rw [h r o w ⟨[], rfl⟩ hw]
      split
      · exact app_getb2 x ih
      · exact ih
    | false =>
      have h1 : ∀ s : St, getb (app o s w).bx x = getb s.bx x := fun s => app_getb x hw
      split <;> split <;> simp only [h1, ih]

def SameN (s t : St) : Prop := s.nx = t.nx ∧ s.nb = t.nb ∧ s.N = t.N
def barN (b : St) : Wr → Prop
  | .bar s => SameN s b
  | _ => True
theorem SE_n {b : St} {E : Nat → Bool} : ∀ {l : List (Oper × Wr)}, (∀ p ∈ l, barN b p.2) → SameN (SE E b l) b
  | [], _ => ⟨rfl, rfl, rfl⟩
  | (o, w) :: r, h => by
    have ih := SE_n (b := b) (E := E) (l := r) fun p hp => h p (by simp [hp])
    simp only [SE]
    split
    · cases w with
      | bar s => exact h (o, .bar s) (by simp)
      | loc v bw rb => exact ih
    · exact ih
theorem SE_all {b : St} {E : Nat → Bool} : ∀ {l : List (Oper × Wr)}, (∀ i, i < l.length → E i = true) → SE E b l = seqS b l
  | [], _ => rfl
  | (o, w) :: r, h => by
    simp only [SE, seqS]
    rw [if_pos (h r.length (by simp)), SE_all fun i hi => h i (by simp; omega)]
end Go.Proofs.YtlinhogbnmnhjaaDoor.X

namespace Go.Proofs.YtlinhogbnmnhjaaDoor.X
open Go Go.RowKit
set_option linter.unusedVariables false
set_option linter.unusedSimpArgs false
set_option linter.unusedSectionVars false

def bindsA (e : Edge) : Bool := Region.binds .any e
def isBar : Wr → Bool
  | .bar _ => true
  | _ => false
def wbs (κ : Nat) : Wr → List Nat
  | .loc _ (some p) _ => [κ, p.1]
  | _ => [κ]
def rbs : Wr → List Nat
  | .loc _ _ rb => rb
  | _ => []
def meets (l r : List Nat) : Bool := l.any fun x => r.any fun y => Nat.beq x y
def confl (ops : Array Oper) (κ κ' : Nat) (p q : Oper × Wr) : Bool :=
  isBar p.2 || isBar q.2 || meets p.1.dst.toList (rdS ops q.1) || meets p.1.dst.toList q.1.dst.toList || meets q.1.dst.toList (rdS ops p.1) ||
  meets (wbs κ p.2) (wbs κ' q.2) || meets (wbs κ p.2) (rbs q.2) || meets (wbs κ' q.2) (rbs p.2)
def maskOf (m : List Nat) (n : Nat) : List Edge → Nat
  | [] => 0
  | e :: es => bif bindsA e && Nat.blt e.on n then Nat.lor (Nat.lor (Nat.shiftLeft 1 e.on) (m.getD (n - 1 - e.on) 0)) (maskOf m n es) else maskOf m n es
def masks : List (Oper × Wr) → List Nat
  | [] => []
  | (o, _) :: r => maskOf (masks r) r.length o.after.toList :: masks r
def orderedAfter (ops : Array Oper) (nb : Nat) (mask : Nat) (n : Nat) (q : Oper × Wr) : List (Oper × Wr) → Bool
  | [] => true
  | p :: r => (!confl ops (nb + r.length) (nb + n) p q || Nat.testBit mask r.length) && orderedAfter ops nb mask n q r
def boxOk (κ : Nat) : Wr → Bool
  | .loc _ (some p) _ => Nat.ble p.1 κ
  | .loc _ none _ => true
  | .bar s => s.bx.all fun q => Nat.ble q.1 κ
def chk (ops : Array Oper) (nb : Nat) : List (Oper × Wr) → Bool
  | [] => true
  | (o, w) :: r => (o.after.toList.all fun e => !bindsA e || Nat.blt e.on r.length) && boxOk (nb + r.length) w &&
      orderedAfter ops nb (maskOf (masks r) r.length o.after.toList) r.length (o, w) r && chk ops nb r

/-- the entry at place 'i' -/
def At (l : List (Oper × Wr)) (i : Nat) (o : Oper) (w : Wr) (r : List (Oper × Wr)) : Prop := (∃ p, l = p ++ (o, w) :: r) ∧ r.length = i
theorem At.tail {l : List (Oper × Wr)} {i : Nat} {o o' : Oper} {w w' : Wr} {r : List (Oper × Wr)} (h : At l i o w r) : At ((o', w') :: l) i o w r := by
  obtain ⟨⟨p, hp⟩, h⟩ := h
  exact ⟨⟨(o', w') :: p, by rw [hp]; rfl⟩, h⟩
theorem At.cases {l : List (Oper × Wr)} {i : Nat} {o o' : Oper} {w w' : Wr} {r : List (Oper × Wr)} (h : At ((o', w') :: l) i o w r) : (o = o' ∧ w = w' ∧ r = l ∧ i = l.length) ∨ At l i o w r := by
  obtain ⟨⟨p, hp⟩, h⟩ := h
  cases p with
  | nil => simp at hp; obtain ⟨⟨rfl, rfl⟩, rfl⟩ := hp; exact .inl ⟨rfl, rfl, rfl, h.symm⟩
  | cons q p => simp at hp; obtain ⟨rfl, rfl⟩ := hp; exact .inr ⟨⟨p, rfl⟩, h⟩
theorem At.lt {l : List (Oper × Wr)} {i : Nat} {o : Oper} {w : Wr} {r : List (Oper × Wr)} (h : At l i o w r) : i < l.length := by
  obtain ⟨⟨p, rfl⟩, rfl⟩ := h
  simp; omega
theorem At.uniq {l : List (Oper × Wr)} {i : Nat} {o o' : Oper} {w w' : Wr} {r r' : List (Oper × Wr)} (h : At l i o w r) (h' : At l i o' w' r') : o = o' ∧ w = w' ∧ r = r' := by
  induction l with
  | nil => obtain ⟨⟨p, hp⟩, _⟩ := h; simp at hp
  | cons q l ih =>
    obtain ⟨q1, q2⟩ := q
    rcases h.cases with ⟨rfl, rfl, rfl, h1⟩ | h1 <;> rcases h'.cases with ⟨rfl, rfl, rfl, h2⟩ | h2
    · exact ⟨rfl, rfl, rfl⟩
    · have := h2.lt; omega
    · have := h1.lt; omega
    · exact ih h1 h2
theorem at_of : ∀ {l : List (Oper × Wr)} {i : Nat}, i < l.length → ∃ o w r, At l i o w r
  | [], i, h => by simp at h
  | (o, w) :: l, i, h => by
    by_cases hi : i = l.length
    · exact ⟨o, w, l, ⟨⟨[], rfl⟩, hi.symm⟩⟩
    · obtain ⟨o', w', r, h'⟩ := at_of (l := l) (i := i) (by simp at h; omega)
      exact ⟨o', w', r, h'.tail⟩
theorem At.op {l : List (Oper × Wr)} {i : Nat} {o : Oper} {w : Wr} {r : List (Oper × Wr)} (h : At l i o w r) : (l.map (·.1)).reverse.toArray[i]? = some o := by
  obtain ⟨⟨p, rfl⟩, rfl⟩ := h
  simp

/-- done operations bring what they come after -/
def Down (l : List (Oper × Wr)) (E : Nat → Bool) : Prop := ∀ i o w r, At l i o w r → E i = true → ∀ e ∈ o.after.toList, bindsA e = true → E e.on = true

theorem testBit_or3 (a b c j : Nat) : Nat.testBit (Nat.lor (Nat.lor (Nat.shiftLeft 1 a) b) c) j = (decide (a = j) || Nat.testBit b j || Nat.testBit c j) := by
  show Nat.testBit ((1 <<< a ||| b) ||| c) j = _
  rw [Nat.testBit_or, Nat.testBit_or, Nat.one_shiftLeft, Nat.testBit_two_pow]

theorem maskOf_down {m : List Nat} {n : Nat} {E : Nat → Bool} (hm : ∀ i, i < n → ∀ j, Nat.testBit (m.getD (n - 1 - i) 0) j = true → E i = true → E j = true) :
    ∀ {es : List Edge}, (∀ e ∈ es, bindsA e = true → E e.on = true) → ∀ j, Nat.testBit (maskOf m n es) j = true → E j = true
  | [], _, j, h => by simp [maskOf] at h
  | e :: es, hd, j, h => by
    have ih := maskOf_down hm (es := es) fun e he => hd e (by simp [he])
    simp only [maskOf] at h
    cases hb : bindsA e && Nat.blt e.on n with
    | false => rw [hb] at h; exact ih j h
    | true =>
      rw [hb, cond_true, testBit_or3] at h
      simp only [Bool.and_eq_true, Nat.blt_eq] at hb
      have he := hd e (by simp) hb.1
      simp only [Bool.or_eq_true, decide_eq_true_eq] at h
      rcases h with (h | h) | h
      · rw [← h]; exact he
      · exact hm e.on hb.2 j h he
      · exact ih j h
theorem masks_len : ∀ l : List (Oper × Wr), (masks l).length = l.length
  | [] => rfl
  | (o, _) :: r => by simp [masks, masks_len r]
theorem masks_down {E : Nat → Bool} : ∀ {l : List (Oper × Wr)}, Down l E → ∀ i, i < l.length → ∀ j, Nat.testBit ((masks l).getD (l.length - 1 - i) 0) j = true → E i = true → E j = true
  | [], _, i, h, _, _, _ => by simp at h
  | (o, w) :: r, hd, i, hi, j, h, he => by
    have hd' : Down r E := fun i o' w' r' h' => hd i o' w' r' h'.tail
    have ih := masks_down hd'
    simp only [List.length_cons] at hi h
    by_cases hir : i = r.length
    · subst hir
      rw [show r.length + 1 - 1 - r.length = 0 from by omega] at h
      simp only [masks, List.getD_cons_zero] at h
      exact maskOf_down ih (hd r.length o w r ⟨⟨[], rfl⟩, rfl⟩ he) j h
    · rw [show r.length + 1 - 1 - i = (r.length - 1 - i) + 1 from by omega] at h
      simp only [masks, List.getD_cons_succ] at h
      exact ih i (by omega) j h he

theorem orderedAfter_spec {ops : Array Oper} {nb mask n : Nat} {q : Oper × Wr} : ∀ {l : List (Oper × Wr)}, orderedAfter ops nb mask n q l = true → ∀ {i o w r}, At l i o w r → confl ops (nb + i) (nb + n) (o, w) q = true → Nat.testBit mask i = true
  | [], _, i, o, w, r, h, _ => by have := h.lt; simp at this
  | (o', w') :: l, hc, i, o, w, r, h, hcf => by
    simp only [orderedAfter, Bool.and_eq_true, Bool.or_eq_true, Bool.not_eq_true'] at hc
    rcases h.cases with ⟨rfl, rfl, rfl, rfl⟩ | h
    · rcases hc.1 with h1 | h1
      · rw [hcf] at h1; cases h1
      · exact h1
    · exact orderedAfter_spec hc.2 h hcf

structure Ord (ops : Array Oper) (nb : Nat) (l : List (Oper × Wr)) : Prop where
  back : ∀ i o w r, At l i o w r → ∀ e ∈ o.after.toList, bindsA e = true → e.on < i
  box : ∀ i o w r, At l i o w r → boxOk (nb + i) w = true
  /-- of two operations in conflict the later comes after the earlier -/
  cf : ∀ {E}, Down l E → ∀ i j o w r o' w' r', At l i o w r → At l j o' w' r' → i < j → confl ops (nb + i) (nb + j) (o, w) (o', w') = true →
    (∀ e ∈ o'.after.toList, bindsA e = true → E e.on = true) → E i = true
theorem chk_spec {ops : Array Oper} {nb : Nat} : ∀ {l : List (Oper × Wr)}, chk ops nb l = true → Ord ops nb l
  | [], _ => ⟨fun i o w r h => by have := h.lt; simp at this, fun i o w r h => by have := h.lt; simp at this, fun _ i j o w r o' w' r' h => by have := h.lt; simp at this⟩
  | (o, w) :: l, hc => by
    simp only [chk, Bool.and_eq_true, List.all_eq_true, Bool.or_eq_true, Bool.not_eq_true', Nat.blt_eq] at hc
    obtain ⟨⟨⟨h1, h2⟩, h3⟩, h4⟩ := hc
    have ih := chk_spec h4
    refine ⟨?_, ?_, ?_⟩
    · intro i o' w' r' h e he hb
      rcases h.cases with ⟨rfl, rfl, rfl, rfl⟩ | h
      · rcases h1 e he with h | h
        · rw [hb] at h; cases h
        · exact h
      · exact ih.back i o' w' r' h e he hb
    · intro i o' w' r' h
      rcases h.cases with ⟨rfl, rfl, rfl, rfl⟩ | h
      · exact h2
      · exact ih.box i o' w' r' h
    · intro E hd i j o1 w1 r1 o2 w2 r2 hi hj hij hcf hdep
      have hd' : Down l E := fun i o' w' r' h' => hd i o' w' r' h'.tail
      rcases hj.cases with ⟨rfl, rfl, rfl, rfl⟩ | hj
      · rcases hi.cases with ⟨_, _, _, rfl⟩ | hi
        · omega
        · exact maskOf_down (masks_down hd') hdep i (orderedAfter_spec h3 hi hcf)
      · rcases hi.cases with ⟨_, _, _, rfl⟩ | hi
        · have := hj.lt; omega
        · exact ih.cf hd' i j o1 w1 r1 o2 w2 r2 hi hj hij hcf hdep

theorem meets_of {l r : List Nat} {x : Nat} (h : x ∈ l) (h' : x ∈ r) : meets l r = true := by
  simp only [meets, List.any_eq_true]
  exact ⟨x, h, x, h', by simp⟩
theorem writesS_mem {o : Oper} {w : Wr} {s : Nat} (h : writesS o w s = true) : isBar w = true ∨ s ∈ o.dst.toList := by
  cases w with
  | bar _ => exact .inl rfl
  | loc v bw rb =>
    simp only [writesS] at h
    cases hd : o.dst with
    | none => rw [hd] at h; cases h
    | some d => rw [hd] at h; simp at h; subst h; exact .inr (by simp)
theorem writesB_mem {κ : Nat} {w : Wr} {s : Nat} (h : writesB κ w s = true) : isBar w = true ∨ s ∈ wbs κ w := by
  cases w with
  | bar _ => exact .inl rfl
  | loc v bw rb =>
    cases bw with
    | none => simp [writesB] at h; subst h; exact .inr (by simp [wbs])
    | some p => simp [writesB] at h; rcases h with rfl | rfl <;> exact .inr (by simp [wbs])

/-- The operation at 'i' done on top, or in its place. -/
theorem SE_ins {ops : Array Oper} {b : St} {nb : Nat} {E : Nat → Bool} {i : Nat} {oi : Oper} {wi : Wr} (hE : E i = false) :
    ∀ {l : List (Oper × Wr)} {r : List (Oper × Wr)}, At l i oi wi r → (∀ j o w r', At l j o w r' → i < j → E j = true → confl ops (nb + i) (nb + j) (oi, wi) (o, w) = false) →
      (∀ x, get (app oi (SE E b l) wi).env x = get (SE (fun j => E j || Nat.beq j i) b l).env x) ∧ (∀ x, getb (app oi (SE E b l) wi).bx x = getb (SE (fun j => E j || Nat.beq j i) b l).bx x)
  | [], r, h, _ => by have := h.lt; simp at this
  | (o, w) :: l, r, h, hc => by
    rcases h.cases with ⟨rfl, rfl, rfl, rfl⟩ | h
    · have h0 : ∀ x, get (SE E b r).env x = get (SE (fun j => E j || Nat.beq j r.length) b r).env x := fun x => SE_get x fun r' o' w' hh _ => by
        have := At.lt ⟨hh, rfl⟩
        simp [show ¬ r'.length = r.length from by omega]
      have h1 : ∀ x, getb (SE E b r).bx x = getb (SE (fun j => E j || Nat.beq j r.length) b r).bx x := fun x => SE_getb nb x fun r' o' w' hh _ => by
        have := At.lt ⟨hh, rfl⟩
        simp [show ¬ r'.length = r.length from by omega]
      simp only [SE, hE, Bool.false_eq_true, if_false, Nat.beq_refl, Bool.or_true, if_true]
      exact ⟨fun x => app_get2 x (h0 x), fun x => app_getb2 x (h1 x)⟩
    · have ih := SE_ins (l := l) (ops := ops) (b := b) (nb := nb) hE h fun j o w r' h' => hc j o w r' h'.tail
      have hlt := h.lt
      have hne : Nat.beq l.length i = false := by cases hb : Nat.beq l.length i with | false => rfl | true => have := Nat.eq_of_beq_eq_true hb; omega
      simp only [SE, hne, Bool.or_false]
      cases hEl : E l.length with
      | false => simpa using ih
      | true =>
        simp only [if_true]
        have hcf := hc l.length o w l ⟨⟨[], rfl⟩, rfl⟩ hlt hEl
        simp only [confl, Bool.or_eq_false_iff] at hcf
        obtain ⟨⟨⟨⟨⟨⟨⟨f1, f2⟩, f3⟩, f4⟩, f5⟩, f6⟩, f7⟩, f8⟩ := hcf
        refine ⟨fun x => ?_, fun x => ?_⟩
        · cases hw : writesS o w x with
          | false =>
            rw [app_get (t := b) (s := SE (fun j => E j || Nat.beq j i) b l) x hw, ← ih.1 x]
            exact app_get2 x (app_get (t := b) x hw)
          | true =>
            have hwi : writesS oi wi x = false := by
              cases hwi : writesS oi wi x with
              | false => rfl
              | true =>
                have m1 := (writesS_mem hw).resolve_left (by rw [f2]; simp)
                have m2 := (writesS_mem hwi).resolve_left (by rw [f1]; simp)
                rw [meets_of m2 m1] at f4; cases f4
            rw [app_get (t := b) x hwi]
            refine app_get2 x ?_
            rw [← ih.1 x, app_get (t := b) x hwi]
        · cases hw : writesB (nb + l.length) w x with
          | false =>
            rw [app_getb (s := SE (fun j => E j || Nat.beq j i) b l) x hw, ← ih.2 x]
            exact app_getb2 x (app_getb x hw)
          | true =>
            have hwi : writesB (nb + i) wi x = false := by
              cases hwi : writesB (nb + i) wi x with
              | false => rfl
              | true =>
                have m1 := (writesB_mem hw).resolve_left (by rw [f2]; simp)
                have m2 := (writesB_mem hwi).resolve_left (by rw [f1]; simp)
                rw [meets_of m2 m1] at f6; cases f6
            rw [app_getb x hwi]
            refine app_getb2 x ?_
            rw [← ih.2 x, app_getb x hwi]

theorem getb_all {l : List (Nat × List L)} {κ x : Nat} (h : (l.all fun q => Nat.ble q.1 κ) = true) (hx : κ < x) : getb l x = none := by
  induction l with
  | nil => rfl
  | cons p l ih =>
    obtain ⟨p1, p2⟩ := p
    simp only [List.all_cons, Bool.and_eq_true] at h
    have := Nat.le_of_ble_eq_true h.1
    rw [getb_cons, if_neg (by omega)]
    exact ih h.2
/-- A new variable is not there before. -/
theorem SE_none {b : St} {E : Nat → Bool} {x nb : Nat} (hb : getb b.bx x = none) : ∀ {l : List (Oper × Wr)}, (∀ j o w r, At l j o w r → E j = true → (nb + j < x ∧ boxOk (nb + j) w = true) ∨ writesB (nb + j) w x = false) → getb (SE E b l).bx x = none
  | [], _ => hb
  | (o, w) :: r, h => by
    have ih := SE_none hb (l := r) fun j o w r' h' => h j o w r' h'.tail
    simp only [SE]
    split
    · rename_i hE
      rcases h r.length o w r ⟨⟨[], rfl⟩, rfl⟩ hE with ⟨h1, h2⟩ | h1
      · cases w with
        | bar s => exact getb_all h2 h1
        | loc v bw rb =>
          cases bw with
          | none => exact ih
          | some p =>
            obtain ⟨p1, p2⟩ := p
            have : p1 ≤ nb + r.length := Nat.le_of_ble_eq_true h2
            simp only [app]
            rw [getb_cons, if_neg (by omega)]
            exact ih
      · rw [app_getb x h1]; exact ih
    · exact ih
end Go.Proofs.YtlinhogbnmnhjaaDoor.X

namespace Go.Proofs.YtlinhogbnmnhjaaDoor.X
open Go Go.RowKit
set_option linter.unusedVariables false
set_option linter.unusedSimpArgs false
set_option linter.unusedSectionVars false

def MonoG (P : Program) [HasPhi P] (ops : Array Oper) (o : Oper) (st : St) (τ κ : Nat) (st' : St) : Prop :=
  ∀ (k : K (HasPhi.Φ P)) m (a : Act) w, Inv k st m a.tmps w → (∀ j, j < 16 → m.D (τ + j) = false) → τ + 16 ≤ st.nx → 100 ≤ τ → getb st.bx κ = none → 8 ≤ κ ∧ κ < st.nb →
    ∀ (K' : Act → World → Prop) (Q : Exit → Act → World → Prop),
      (∀ a' w' m', Inv k st' m' a'.tmps w' → a'.defers = a.defers → (∀ t, t < τ ∨ τ + 16 ≤ t → m'.D t = true → m.D t = true) → K' a' w') →
      if Region.wanted o (yielded ops a.tmps) then o.wp P a w K' Q else K' (a.put o.dst undef) w

/-- The step is right at every state that agrees at what it reads. -/
def OKs (P : Program) [HasPhi P] (ops : Array Oper) (nx nb : Nat) (b : St) (st : St) (i : Nat) (o : Oper) : Wr → Prop
  | .loc v bw rb => ∀ st', SameN st' b → (∀ s ∈ rdS ops o, get st'.env s = get st.env s) → (∀ x ∈ rb, getb st'.bx x = getb st.bx x) → MonoG P ops o st' (nx + 16 * i) (nb + i) (app o st' (.loc v bw rb))
  | .bar s => SameN s b ∧ MonoG P ops o st (nx + 16 * i) (nb + i) s
def Hist (P : Program) [HasPhi P] (ops : Array Oper) (nx nb : Nat) (b : St) : List (Oper × Wr) → Prop
  | [] => True
  | (o, w) :: r => OKs P ops nx nb b (seqS b r) r.length o w ∧ Hist P ops nx nb b r
theorem Hist.at' {P : Program} [HasPhi P] {ops : Array Oper} {nx nb : Nat} {b : St} : ∀ {l : List (Oper × Wr)}, Hist P ops nx nb b l → ∀ {i o w r}, At l i o w r → OKs P ops nx nb b (seqS b r) i o w
  | [], _, i, o, w, r, h => by have := h.lt; simp at this
  | (o', w') :: l, hh, i, o, w, r, h => by
    rcases h.cases with ⟨rfl, rfl, rfl, rfl⟩ | h
    · exact hh.1
    · exact hh.2.at' h

def cnt (l : List Bool) : Nat := (l.filter (fun b => !b)).length
theorem cnt_set : ∀ {l : List Bool} {i : Nat}, l[i]? = some false → cnt l = cnt (l.set i true) + 1
  | [], i, h => by simp at h
  | b :: l, 0, h => by simp at h; subst h; simp [cnt]
  | b :: l, i + 1, h => by
    simp only [List.getElem?_cons_succ] at h
    have := cnt_set h
    simp only [List.set_cons_succ]
    unfold cnt at this ⊢
    simp only [List.filter_cons]
    split <;> simp [this]

theorem notL {listed : Array Bool} {i : Nat} (h : listed.getD i true = false) : i < listed.size ∧ listed.toList[i]? = some false ∧ listed.getD i false = false := by
  rcases Nat.lt_or_ge i listed.size with h' | h'
  · simp [h'] at h
    refine ⟨h', ?_, by simp [h', h]⟩
    rw [List.getElem?_eq_getElem (by simpa using h')]
    simp [h]
  · simp [Array.getElem?_eq_none h'] at h

set_option maxHeartbeats 800000 in
theorem draw_main {P : Program} [HasPhi P] {k : K (HasPhi.Φ P)} {Q : Exit → St → Prop} {b : St} {nx nb : Nat} {full : List (Oper × Wr)} {ops : Array Oper} (hops : ops = (full.map (·.1)).reverse.toArray)
    (hck : chk ops nb full = true) (hh : Hist P ops nx nb b full) (hnx : nx + 16 * full.length ≤ b.nx) (hnb : nb + full.length ≤ b.nb) (h50 : 100 ≤ nx) (h8 : 8 ≤ nb) (hb0 : ∀ i, getb b.bx (nb + i) = none)
    (hQ : ∀ m (a : Act) w, Inv k (seqS b full) m a.tmps w → a.defers = [] → Post k Q .normal a w) :
    ∀ (fuel : Nat) (listed : Array Bool) (m : M) (a : Act) (w : World), listed.size = full.length → cnt listed.toList ≤ fuel → Down full (fun i => listed.getD i false) →
      Inv k (SE (fun i => listed.getD i false) b full) m a.tmps w → a.defers = [] → (∀ i, i < full.length → listed.getD i false = false → ∀ j, j < 16 → m.D (nx + 16 * i + j) = false) →
      wpAny P .any ops (Post k Q) fuel listed a w := by
  have hord := chk_spec hck
  have hat : ∀ {i o}, ops[i]? = some o → ∃ w r, At full i o w r := by
    intro i o ho
    have hlt : i < full.length := by
      have := (Array.getElem?_eq_some_iff.1 ho).1
      rw [hops] at this; simpa using this
    obtain ⟨o', w, r, h⟩ := at_of hlt
    have h2 := h.op
    rw [← hops, ho] at h2
    simp only [Option.some.injEq] at h2
    subst h2
    exact ⟨w, r, h⟩
  have hbar : ∀ p ∈ full, barN b p.2 := by
    intro p hp
    obtain ⟨s, t, hst⟩ := List.append_of_mem hp
    obtain ⟨p1, p2⟩ := p
    have := hh.at' (i := t.length) (o := p1) (w := p2) (r := t) ⟨⟨s, hst⟩, rfl⟩
    cases p2 with
    | loc => trivial
    | bar s => exact this.1
  -- nothing ready: all done
  have hdone : ∀ (listed : Array Bool) (m : M) (a : Act) (w : World), listed.size = full.length → Region.ready .any ops listed = [] →
      Inv k (SE (fun i => listed.getD i false) b full) m a.tmps w → a.defers = [] → Post k Q .normal a w := by
    intro listed m a w hsz hr hi hd
    have hall : ∀ n i, i < n → i < full.length → listed.getD i false = true := by
      intro n
      induction n with
      | zero => intro i h; omega
      | succ n ih =>
        intro i hin hil
        cases hl : listed.getD i false with
        | true => rfl
        | false =>
          exfalso
          obtain ⟨o, w', r, h⟩ := at_of hil
          have hmem : i ∈ Region.ready .any ops listed := by
            rw [mem_ready]
            refine ⟨?_, o, by rw [hops]; exact h.op, fun e he hb => ?_⟩
            · have : i < listed.size := by omega
              simp [this] at hl ⊢; exact hl
            · have hlt := hord.back i o w' r h e (by simpa using he) hb
              exact ih e.on (by omega) (by omega)
          rw [hr] at hmem; cases hmem
    refine hQ m a w ?_ hd
    rw [SE_all (fun i hil => hall (i + 1) i (by omega) hil)] at hi
    exact hi
  intro fuel
  induction fuel with
  | zero =>
    intro listed m a w hsz hcnt hdn hi hd hD
    have hr : Region.ready .any ops listed = [] := by
      cases hr : Region.ready .any ops listed with
      | nil => rfl
      | cons i rs =>
        have : i ∈ Region.ready .any ops listed := by rw [hr]; simp
        have h1 := (notL (mem_ready.1 this).1).2.1
        have := cnt_set h1
        omega
    exact ⟨hr, hdone listed m a w hsz hr hi hd⟩
  | succ fuel ih =>
    intro listed m a w hsz hcnt hdn hi hd hD
    refine ⟨fun hr => hdone listed m a w hsz hr hi hd, fun i him => ?_⟩
    obtain ⟨hun, o, ho, hdep⟩ := mem_ready.1 him
    obtain ⟨hil, hlf, hEi⟩ := notL hun
    obtain ⟨wr, r, hA⟩ := hat ho
    have hilf : i < full.length := hA.lt
    have hdep' : ∀ e ∈ o.after.toList, bindsA e = true → listed.getD e.on false = true := fun e he hb => hdep e (by simpa using he) hb
    have hok := hh.at' hA
    -- order facts
    have hlate : ∀ j o' w' r', At full j o' w' r' → i < j → listed.getD j false = true → confl ops (nb + i) (nb + j) (o, wr) (o', w') = false := by
      intro j o' w' r' hj hij hEj
      cases hc : confl ops (nb + i) (nb + j) (o, wr) (o', w') with
      | false => rfl
      | true =>
        have := hord.cf hdn i j o wr r o' w' r' hA hj hij hc (hdn j o' w' r' hj hEj)
        rw [hEi] at this; cases this
    have hearly : ∀ j o' w' r', At full j o' w' r' → j < i → confl ops (nb + j) (nb + i) (o', w') (o, wr) = true → listed.getD j false = true :=
      fun j o' w' r' hj hji hc => hord.cf hdn j i o' w' r' o wr r hj hA hji hc hdep'
    have hnn : SameN (SE (fun i => listed.getD i false) b full) b := SE_n hbar
    -- the state in which it runs, against the state in list order
    have hrfull : ∃ p, full = p ++ (o, wr) :: r := hA.1
    have hrl : r.length = i := hA.2
    have hseq : seqS b r = SE (fun j => Nat.blt j i) b full := by
      obtain ⟨p, hp⟩ := hrfull
      rw [hp]
      have h1 : ∀ (p : List (Oper × Wr)), SE (fun j => Nat.blt j i) b (p ++ (o, wr) :: r) = SE (fun j => Nat.blt j i) b r := by
        intro p
        induction p with
        | nil => simp only [List.nil_append, SE, hrl]; rw [if_neg (by simp)]
        | cons q p ihp =>
          obtain ⟨q1, q2⟩ := q
          simp only [List.cons_append, SE]
          rw [if_neg (by simp; omega)]
          exact ihp
      rw [h1 p, SE_all fun j hj => by simpa using (by omega : j < i)]
    have hκ : getb (SE (fun i => listed.getD i false) b full).bx (nb + i) = none := by
      refine SE_none (nb := nb) (hb0 i) fun j o' w' r' hj hEj => ?_
      rcases Nat.lt_trichotomy j i with h | h | h
      · exact .inl ⟨by omega, hord.box j o' w' r' hj⟩
      · subst h; rw [hEi] at hEj; cases hEj
      · refine .inr ?_
        have hcf := hlate j o' w' r' hj h hEj
        simp only [confl, Bool.or_eq_false_iff] at hcf
        obtain ⟨⟨⟨⟨⟨⟨⟨f1, f2⟩, f3⟩, f4⟩, f5⟩, f6⟩, f7⟩, f8⟩ := hcf
        cases hw : writesB (nb + j) w' (nb + i) with
        | false => rfl
        | true =>
          have m1 := (writesB_mem hw).resolve_left (by rw [f2]; simp)
          have m2 : nb + i ∈ wbs (nb + i) wr := by
            cases wr with
            | bar _ => simp [wbs]
            | loc v bw rb => cases bw <;> simp [wbs]
          rw [meets_of m2 m1] at f6; cases f6
    have hstep : ∃ st', MonoG P ops o (SE (fun i => listed.getD i false) b full) (nx + 16 * i) (nb + i) st' ∧ Sm st' (SE (fun j => listed.getD j false || Nat.beq j i) b full) := by
      have hins := SE_ins (ops := ops) (b := b) (nb := nb) (E := fun j => listed.getD j false) hEi hA hlate
      have hnn' : SameN (SE (fun j => listed.getD j false || Nat.beq j i) b full) b := SE_n hbar
      cases hwr : wr with
      | loc v bw rb =>
        subst hwr
        refine ⟨app o (SE (fun i => listed.getD i false) b full) (.loc v bw rb), hok _ hnn ?_ ?_, ⟨hins.1, hins.2, ?_, ?_, ?_⟩⟩
        · intro s hs
          rw [hseq]
          refine SE_get s fun r' o' w' hh' hw => ?_
          have hj : At full r'.length o' w' r' := ⟨hh', rfl⟩
          rcases Nat.lt_trichotomy r'.length i with h | h | h
          · have hc : confl ops (nb + r'.length) (nb + i) (o', w') (o, .loc v bw rb) = true := by
              rcases writesS_mem hw with hb | hm
              · simp [confl, hb]
              · simp [confl, meets_of hm hs]
            have := hearly _ o' w' r' hj h hc
            simp only [this]; simpa using h
          · rw [h]
            simp only [hEi, Nat.blt, Bool.false_eq]
            cases hb : Nat.ble (i + 1) i with | false => rfl | true => have := Nat.le_of_ble_eq_true hb; omega
          · have hnot : listed.getD r'.length false = false := by
              cases hE : listed.getD r'.length false with
              | false => rfl
              | true =>
                have hcf := hlate _ o' w' r' hj h hE
                simp only [confl, Bool.or_eq_false_iff] at hcf
                obtain ⟨⟨⟨⟨⟨⟨⟨f1, f2⟩, f3⟩, f4⟩, f5⟩, f6⟩, f7⟩, f8⟩ := hcf
                have hm := (writesS_mem hw).resolve_left (by rw [f2]; simp)
                rw [meets_of hm hs] at f5; cases f5
            simp only [hnot]
            cases hb : Nat.blt r'.length i with
            | false => rfl
            | true => rw [Nat.blt_eq] at hb; omega
        · intro x hx
          rw [hseq]
          refine SE_getb nb x fun r' o' w' hh' hw => ?_
          have hj : At full r'.length o' w' r' := ⟨hh', rfl⟩
          rcases Nat.lt_trichotomy r'.length i with h | h | h
          · have hc : confl ops (nb + r'.length) (nb + i) (o', w') (o, .loc v bw rb) = true := by
              rcases writesB_mem hw with hb | hm
              · simp [confl, hb]
              · have := meets_of (l := wbs (nb + r'.length) w') (r := rbs (.loc v bw rb)) hm hx
                simp [confl, this]
            have := hearly _ o' w' r' hj h hc
            simp only [this]; simpa using h
          · rw [h]
            simp only [hEi, Nat.blt, Bool.false_eq]
            cases hb : Nat.ble (i + 1) i with | false => rfl | true => have := Nat.le_of_ble_eq_true hb; omega
          · have hnot : listed.getD r'.length false = false := by
              cases hE : listed.getD r'.length false with
              | false => rfl
              | true =>
                have hcf := hlate _ o' w' r' hj h hE
                simp only [confl, Bool.or_eq_false_iff] at hcf
                obtain ⟨⟨⟨⟨⟨⟨⟨f1, f2⟩, f3⟩, f4⟩, f5⟩, f6⟩, f7⟩, f8⟩ := hcf
                have hm := (writesB_mem hw).resolve_left (by rw [f2]; simp)
                rw [meets_of (r := rbs (.loc v bw rb)) hm hx] at f8; cases f8
            simp only [hnot]
            cases hb : Nat.blt r'.length i with
            | false => rfl
            | true => rw [Nat.blt_eq] at hb; omega
        · exact hnn.1.trans hnn'.1.symm
        · exact hnn.2.1.trans hnn'.2.1.symm
        · exact hnn.2.2.trans hnn'.2.2.symm
      | bar s =>
        subst hwr
        -- all earlier are done, none of the later
        have hEq : ∀ j o' w' r', At full j o' w' r' → listed.getD j false = Nat.blt j i := by
          intro j o' w' r' hj
          rcases Nat.lt_trichotomy j i with h | h | h
          · rw [hearly j o' w' r' hj h (by simp [confl, isBar])]; simpa using h
          · subst h; rw [hEi]
            cases hb : Nat.blt j j with | false => rfl | true => rw [Nat.blt_eq] at hb; omega
          · cases hE : listed.getD j false with
            | false => cases hb : Nat.blt j i with | false => rfl | true => rw [Nat.blt_eq] at hb; omega
            | true =>
              have hcf := hlate j o' w' r' hj h hE
              simp [confl, isBar] at hcf
        have hsm : Sm (seqS b r) (SE (fun i => listed.getD i false) b full) := by
          have hn2 : SameN (seqS b r) b := by rw [hseq]; exact SE_n hbar
          refine ⟨fun x => ?_, fun x => ?_, hn2.1.trans hnn.1.symm, hn2.2.1.trans hnn.2.1.symm, hn2.2.2.trans hnn.2.2.symm⟩
          · rw [hseq]; exact SE_get x fun r' o' w' hh' _ => (hEq _ o' w' r' ⟨hh', rfl⟩).symm
          · rw [hseq]; exact SE_getb nb x fun r' o' w' hh' _ => (hEq _ o' w' r' ⟨hh', rfl⟩).symm
        refine ⟨s, ?_, ⟨hins.1, hins.2, hok.1.1.trans hnn'.1.symm, hok.1.2.1.trans hnn'.2.1.symm, hok.1.2.2.trans hnn'.2.2.symm⟩⟩
        intro k m a w hi h1 h2 h3 h4 h5
        have hi' : Inv k (seqS b r) m a.tmps w := hi.sm ⟨fun x => (hsm.env x).symm, fun x => (hsm.bx x).symm, hsm.nx.symm, hsm.nb.symm, hsm.N.symm⟩
        exact hok.2 k m a w hi' h1 (by rw [hsm.nx]; exact h2) h3 (by rw [hsm.bx]; exact h4) (by rw [hsm.nb]; exact h5)
    obtain ⟨st', hmono, hsm⟩ := hstep
    have hset : ∀ j, (listed.setIfInBounds i true).getD j false = (listed.getD j false || Nat.beq j i) := by
      intro j
      by_cases hji : i = j
      · subst hji
        simp [hil]
      · rw [getD_set_ne false hji]
        have : Nat.beq j i = false := by cases hb : Nat.beq j i with | false => rfl | true => exact absurd (Nat.eq_of_beq_eq_true hb).symm hji
        simp [this]
    have hfun : (fun j => (listed.setIfInBounds i true).getD j false) = fun j => listed.getD j false || Nat.beq j i := funext hset
    have hstep := hmono k m a w hi (hD i hilf hEi) (by rw [hnn.1]; omega) (by omega) hκ ⟨by omega, by rw [hnn.2.1]; omega⟩ (wpAny P .any ops (Post k Q) fuel (listed.setIfInBounds i true)) (Post k Q) (by
      intro a' w' m' hi' hd' hDD
      refine ih (listed.setIfInBounds i true) m' a' w' (by simpa using hsz) ?_ ?_ ?_ (hd'.trans hd) ?_
      · have := cnt_set hlf
        rw [Array.toList_setIfInBounds]
        omega
      · intro j o' w'' r' hj hE e he hb
        simp only at hE ⊢
        rw [hset] at hE ⊢
        simp only [Bool.or_eq_true] at hE ⊢
        rcases hE with hE | hE
        · exact .inl (hdn j o' w'' r' hj hE e he hb)
        · have hji := Nat.eq_of_beq_eq_true hE
          subst hji
          obtain ⟨rfl, _, _⟩ := hj.uniq hA
          exact .inl (hdep' e he hb)
      · rw [hfun]; exact hi'.sm hsm
      · intro j hj hE q hq
        rw [hset] at hE
        simp only [Bool.or_eq_false_iff] at hE
        have hne : j ≠ i := by intro h; subst h; simp at hE
        have hold := hD j hj hE.1 q hq
        cases hdd : m'.D (nx + 16 * j + q) with
        | false => rfl
        | true =>
          have := hDD (nx + 16 * j + q) (by omega) hdd
          rw [hold] at this; cases this)
    unfold wpOp
    rw [ho]
    simp only
    split
    · rename_i hw; rw [if_pos hw] at hstep; exact .inl hstep
    · rename_i hw; rw [if_neg hw] at hstep; exact hstep
end Go.Proofs.YtlinhogbnmnhjaaDoor.X

namespace Go.Proofs.YtlinhogbnmnhjaaDoor.X
open Go Go.RowKit
set_option linter.unusedVariables false
set_option linter.unusedSimpArgs false
set_option linter.unusedSectionVars false

def rdB (T : Nat → TI) (st : St) (o : Oper) : List Nat := match o.op with
  | .load _ x => match opnd T st 0 x with
    | .c (false, [.pt i _]) => [i]
    | _ => []
  | .store _ x _ => match opnd T st 0 x with
    | .c (false, [.pt i _]) => [i]
    | _ => []
  | _ => []

theorem opnd_ag {T : Nat → TI} {st st' : St} {ty : Nat} {x : Operand} (h : ∀ s, opS x = some s → get st'.env s = get st.env s) : opnd T st' ty x = opnd T st ty x := by
  cases x with
  | tmp s => exact h s rfl
  | const v => unfold opnd; split <;> simp_all
  | _ => rfl
def Ag (ops : Array Oper) (o : Oper) (st' st : St) : Prop := ∀ s ∈ rdS ops o, get st'.env s = get st.env s
theorem Ag.op {ops : Array Oper} {o : Oper} {st' st : St} (h : Ag ops o st' st) {x : Operand} (hx : x ∈ o.op.operands) (T : Nat → TI) (ty : Nat) : opnd T st' ty x = opnd T st ty x :=
  opnd_ag fun s hs => h s (List.mem_append_left _ (List.mem_filterMap.2 ⟨x, by simpa using hx, hs⟩))

theorem pvLoad_ag {T : Nat → TI} {st st' : St} {t : Nat} {v : A} (h : ∀ i o, v = .c (false, [.pt i o]) → getb st'.bx i = getb st.bx i) : pvLoad T st' t v = pvLoad T st t v := by
  unfold pvLoad
  split
  · rename_i i o; rw [h i o rfl]
  · rfl
  · rfl

set_option maxHeartbeats 1000000 in
theorem pv_ag {T : Nat → TI} {ops : Array Oper} {o : Oper} {st st' : St} (h : Ag ops o st' st) (hb : ∀ x ∈ rdB T st o, getb st'.bx x = getb st.bx x) : pv T st' o = pv T st o := by
  have ho : ∀ x, x ∈ o.op.operands → ∀ ty, opnd T st' ty x = opnd T st ty x := fun x hx ty => h.op hx T ty
  obtain ⟨dst, op, type, guard, after, pos⟩ := o
  simp only at ho
  unfold pv
  simp only
  split <;> simp only [Op.operands, Call.operands] at ho
  case h_1 x => rw [ho x (by simp)]
  case h_2 x => rw [ho x (by simp)]
  case h_3 c a b => rw [ho c (by simp), ho a (by simp), ho b (by simp)]
  case h_4 t x =>
    rw [ho x (by simp)]
    refine pvLoad_ag fun i o' hv => hb i ?_
    simp [rdB, hv]
  case h_5 x => rw [ho x (by simp)]
  case h_6 op t x y _ => rw [ho x (by simp), ho y (by simp)]
  case h_7 op _ x => rw [ho x (by simp)]
  case h_8 s d x => rw [ho x (by simp)]
  case h_9 t x lo hi =>
    rw [ho x (by simp)]
    have e1 : lo.map (opnd T st' 0) = lo.map (opnd T st 0) := by cases lo with | none => rfl | some y => simp [ho y (by simp)]
    have e2 : hi.map (opnd T st' 0) = hi.map (opnd T st 0) := by cases hi with | none => rfl | some y => simp [ho y (by simp)]
    rw [e1, e2]
  case h_10 s x f => rw [ho x (by simp)]
  case h_11 s x f => rw [ho x (by simp)]
  case h_12 t x i => rw [ho x (by simp), ho i (by simp)]
  case h_13 t x i => rw [ho x (by simp), ho i (by simp)]
  case h_14 x i => rw [ho x (by simp)]
  case h_15 t ps =>
    congr 1
    refine List.map_congr_left fun p hp => ?_
    rw [ho p.2 (by simp; exact ⟨p.1, by simpa using hp⟩)]
  case h_16 x t => rw [ho x (by simp)]
  case h_17 x y t => rw [ho x (by simp), ho y (by simp)]
  case h_18 x y t => rw [ho x (by simp), ho y (by simp)]
  case h_19 => rfl

section
variable {P : Program} [HasPhi P] {T : Nat → TI}

theorem mono_lit0 (hT : TyOK P T) {st st' : St} {o : Oper} {t e τ κ : Nat} (ho : o.op = .buildSlice t 0 #[]) (ht : (T t).d = .sl e) (he : hasT T e = true)
    (h' : st.putD o.dst (.c (false, [.sl (T e).sz 0 0 []])) = some st') : Mono P o st τ κ st' := by
  intro k m a w hi hD hτ hτ5 hκ hκ2 K' Q hK
  have hty := tyD hT (t := t) (by simp [ht]); rw [ht] at hty
  have hx := Ext.alloc w (.cells #[] e)
  have hv : Lr m (w.alloc (.cells #[] e)) (.sl (T e).sz 0 0 []) (.slice (some ⟨w.heap.size, 0, none⟩) 0 0) := ⟨hi.d0, .inl ⟨hi.nil0, ⟨_, rfl⟩, rfl⟩⟩
  refine wp_value (w' := w.alloc (.cells #[] e)) (y := .slice (some ⟨w.heap.size, 0, none⟩) 0 0) ?_ (hK _ _ m ((hi.ext hx).putD (Ar_l hv) h') (put_defers _ _ _) fun _ _ h => h)
  have hr0 : (Array.range 0).map (fun x => (#[] : Array Value)[x % (#[] : Array Value).size]!) = #[] := by simp [Array.range_zero']
  simp only [execOp, ho, Instr.buildSlice, run_underlying hty, run_sizeOf hT w he, Sem.run_bind, Result.andThen_ok, Sem.run_pure]
  simp only [Nat.zero_mul, hr0, if_true, Sem.run_pure, Result.andThen_ok, newRow, Sem.run_bind, Nat.reducePow, Nat.not_lt_zero, if_false]
  simp [run_newObj_alloc, Instr.fill]

theorem mono_storeB (hT : TyOK P T) {st : St} {o : Oper} {t i off τ κ : Nat} {x v : Operand} {ls : List L} {c : C} (ho : o.op = .store t x v) (hd : o.dst = none) (ht : hasT T t = true)
    (hx : opnd T st 0 x = .c (false, [.pt i off])) (hls : getb st.bx i = some ls) (hv : opnd T st t v = .c c) (hl : c.2.length = (T t).sz) (hfit : off + c.2.length ≤ ls.length) :
    Mono P o st τ κ { st with bx := (i, ls.take off ++ c.2 ++ ls.drop (off + c.2.length)) :: st.bx } := by
  intro k m a w hi _ _ _ _ _ K' Q hK
  have v1 := opnd_inv hT hi 0 x; rw [hx] at v1
  have v2 := opnd_inv hT hi t v; rw [hv] at v2
  obtain ⟨hB, hp⟩ := v1
  have hcells := Cr.cells (b := c.1) (ls := c.2) v2
  have hlen := F2.len hcells
  obtain ⟨hnb, cs, e, hb, hf⟩ := hi.box i ls hls
  have hlc := F2.len hf
  have hone : ∀ u ∈ (a.eval v).cells.toList, u.oneCell' = true := F2.mem (fun _ _ h => Lr.one h) hcells
  simp only [Array.length_toList] at hlen hlc
  have hst := run_storeCells_at P (m.β i) off e (a.eval v).cells.toList 0 cs w hb (by simp; omega) hone
  simp only [Nat.add_zero] at hst
  have hf' : F2 (Lr m w) (ls.take off ++ c.2 ++ ls.drop (off + c.2.length)) (cs.toList.take off ++ (a.eval v).cells.toList ++ cs.toList.drop (off + (a.eval v).cells.toList.length)) := by
    refine F2.app ?_ (F2.app hcells (F2.take _ hf))
    have := F2.drop (off + c.2.length) hf
    rw [hlen] at this ⊢
    simpa using this
  have hI := hi.setBox (cs' := (cs.toList.take off ++ (a.eval v).cells.toList ++ cs.toList.drop (off + (a.eval v).cells.toList.length)).toArray) hls hf'
  have hsz : (a.eval v).cells.size = (T t).sz := by omega
  generalize (cs.toList.take off ++ (a.eval v).cells.toList ++ cs.toList.drop (off + (a.eval v).cells.toList.length)).toArray = cs' at hst hI
  have hw : (execOp a.eval o).run P w = .ok .skip (w.setRow (m.β i) cs') := by
    simp [execOp, ho, Instr.storeAt, hp, Instr.sureAddr, storeVar, run_sizeOf hT w ht, hsz, hst]
  exact wp_skipop hw hd (hK _ _ m hI rfl fun _ _ h => h)
end
end Go.Proofs.YtlinhogbnmnhjaaDoor.X

namespace Go.Proofs.YtlinhogbnmnhjaaDoor.X
open Go Go.RowKit
set_option linter.unusedVariables false
set_option linter.unusedSimpArgs false
set_option linter.unusedSectionVars false

def rsv (st : St) (n : Nat) : St := { st with nx := st.nx + 16 * n, nb := st.nb + n }
def LocR (P : Program) [HasPhi P] (ops : Array Oper) (o : Oper) (st : St) (τ κ : Nat) (v : A) (bw : Option (Nat × List L)) (rb : List Nat) : Prop :=
  ∀ st', st'.N = st.N → Ag ops o st' st → (∀ x ∈ rb, getb st'.bx x = getb st.bx x) → MonoG P ops o st' τ κ (app o st' (.loc v bw rb))
def DR (G : Prop) (P : Program) [HasPhi P] (ops : Array Oper) (b0 : St) (n : Nat) (ws : List (Oper × Wr)) (rest : List Oper) (τ κ : Nat) (st : St) : Prop :=
  st = seqS (rsv b0 n) ws → ops = ((ws.map (·.1)).reverse ++ rest).toArray → τ = b0.nx + 16 * ws.length → κ = b0.nb + ws.length → Hist P ops b0.nx b0.nb (rsv b0 n) ws → G

/-- the guard, if any, lets the operation go -/
def gon (ops : Array Oper) (st : St) (o : Oper) : Prop := match o.guard with
  | none => True
  | some (j, want) => ∃ d, gslot ops j = some d ∧ Nat.blt d st.N = true ∧ get st.env d = .c (false, [.v (.bool want)])
def goff (ops : Array Oper) (st : St) (o : Oper) : Prop := match o.guard with
  | none => False
  | some (j, want) => ∃ d, gslot ops j = some d ∧ Nat.blt d st.N = true ∧ get st.env d = .c (false, [.v (.bool (!want))])

theorem wanted_on {ops : Array Oper} {st st' : St} {o : Oper} {φ : World → Prop} {k : K φ} {m : M} {a : Act} {w : World} (hg : gon ops st o) (hN : st'.N = st.N) (hag : Ag ops o st' st) (hi : Inv k st' m a.tmps w) : Region.wanted o (yielded ops a.tmps) = true := by
  unfold gon at hg
  cases hgd : o.guard with
  | none => simp [Region.wanted, hgd]
  | some p =>
    obtain ⟨j, want⟩ := p
    rw [hgd] at hg
    obtain ⟨d, h1, h2, h3⟩ := hg
    have hd : d ∈ rdS ops o := by simp [rdS, hgd, h1]
    have hy := yielded_of hi h1 (by rw [hN]; simpa [Nat.blt_eq] using h2) ((hag d hd).trans h3)
    simp [Region.wanted, hgd, hy]
theorem wanted_off {ops : Array Oper} {st st' : St} {o : Oper} {φ : World → Prop} {k : K φ} {m : M} {a : Act} {w : World} (hg : goff ops st o) (hN : st'.N = st.N) (hag : Ag ops o st' st) (hi : Inv k st' m a.tmps w) : Region.wanted o (yielded ops a.tmps) = false := by
  unfold goff at hg
  cases hgd : o.guard with
  | none => rw [hgd] at hg; exact hg.elim
  | some p =>
    obtain ⟨j, want⟩ := p
    rw [hgd] at hg
    obtain ⟨d, h1, h2, h3⟩ := hg
    have hd : d ∈ rdS ops o := by simp [rdS, hgd, h1]
    have hy := yielded_of hi h1 (by rw [hN]; simpa [Nat.blt_eq] using h2) ((hag d hd).trans h3)
    simp [Region.wanted, hgd, hy]

theorem loc_of {P : Program} [HasPhi P] {ops : Array Oper} {o : Oper} {st : St} {τ κ : Nat} {v : A} {bw : Option (Nat × List L)} {rb : List Nat} (hg : gon ops st o)
    (h : ∀ st', st'.N = st.N → Ag ops o st' st → (∀ x ∈ rb, getb st'.bx x = getb st.bx x) → Mono P o st' τ κ (app o st' (.loc v bw rb))) : LocR P ops o st τ κ v bw rb := by
  intro st' hN hag hb k m a w hi h1 h2 h3 h4 h5 K' Q hK
  rw [if_pos (wanted_on hg hN hag hi)]
  exact h st' hN hag hb k m a w hi h1 h2 h3 h4 h5 K' Q hK

theorem putD_app {o : Oper} {st st' : St} {v : A} (rb : List Nat) (h : st.putD o.dst v = some st') : st' = app o st (.loc v none rb) ∧ ∀ s : St, s.N = st.N → s.putD o.dst v = some (app o s (.loc v none rb)) := by
  unfold St.putD at h
  simp only [app, St.putD]
  cases hd : o.dst with
  | none => rw [hd] at h; simp at h; subst h; exact ⟨rfl, fun _ _ => rfl⟩
  | some d =>
    rw [hd] at h
    simp only at h
    split at h
    · rename_i hb
      simp only [Option.some.injEq] at h; subst h
      exact ⟨rfl, fun s hs => by simp only; rw [if_pos (by rw [hs]; exact hb)]⟩
    · cases h
theorem putD_app2 {o : Oper} {st st' : St} {v : A} {p : Nat × List L} (rb : List Nat) (h : ({ st with bx := p :: st.bx } : St).putD o.dst v = some st') : st' = app o st (.loc v (some p) rb) ∧ ∀ s : St, s.N = st.N → ({ s with bx := p :: s.bx } : St).putD o.dst v = some (app o s (.loc v (some p) rb)) := by
  unfold St.putD at h
  simp only [app, St.putD]
  cases hd : o.dst with
  | none => rw [hd] at h; simp at h; subst h; exact ⟨rfl, fun _ _ => rfl⟩
  | some d =>
    rw [hd] at h
    simp only at h
    split at h
    · rename_i hb
      simp only [Option.some.injEq] at h; subst h
      exact ⟨rfl, fun s hs => by simp only; rw [if_pos (by rw [hs]; exact hb)]⟩
    · cases h

section
variable {G : Prop} {P : Program} [HasPhi P] {ops : Array Oper} {b0 : St} {n : Nat} {ws : List (Oper × Wr)} {rest : List Oper} {τ κ : Nat} {st st' : St} {o : Oper}

theorem DR_loc {v : A} {bw : Option (Nat × List L)} {rb : List Nat} (h1 : LocR P ops o st τ κ v bw rb) (hs : st' = app o st (.loc v bw rb)) (h : DR G P ops b0 n ((o, .loc v bw rb) :: ws) rest (τ + 16) (κ + 1) st') :
    DR G P ops b0 n ws (o :: rest) τ κ st := by
  intro e1 e2 e3 e4 hh
  have hsn : SameN (seqS (rsv b0 n) ws) (rsv b0 n) := by
    have hb : ∀ p ∈ ws, barN (rsv b0 n) p.2 := by
      intro p hp
      obtain ⟨s, t, hst⟩ := List.append_of_mem hp
      obtain ⟨p1, p2⟩ := p
      have := hh.at' (i := t.length) (o := p1) (w := p2) (r := t) ⟨⟨s, hst⟩, rfl⟩
      cases p2 with
      | loc => trivial
      | bar s => exact this.1
    have := SE_n (b := rsv b0 n) (E := fun _ => true) hb
    rwa [SE_all (fun _ _ => rfl)] at this
  refine h (by rw [hs, e1]; rfl) (by rw [e2]; simp) (by rw [e3]; simp; omega) (by rw [e4]; simp; omega) ⟨?_, hh⟩
  intro s2 hN hag hb
  rw [← e3, ← e4]
  rw [← e1] at hag hb
  exact h1 s2 (by rw [hN.2.2, e1, hsn.2.2]) hag hb

theorem DR_bar {s : St} (h1 : MonoG P ops o st τ κ s) (hn : s.nx = st.nx ∧ s.nb = st.nb ∧ s.N = st.N) (h : DR G P ops b0 n ((o, .bar s) :: ws) rest (τ + 16) (κ + 1) s) :
    DR G P ops b0 n ws (o :: rest) τ κ st := by
  intro e1 e2 e3 e4 hh
  have hsn : SameN (seqS (rsv b0 n) ws) (rsv b0 n) := by
    have hb : ∀ p ∈ ws, barN (rsv b0 n) p.2 := by
      intro p hp
      obtain ⟨s, t, hst⟩ := List.append_of_mem hp
      obtain ⟨p1, p2⟩ := p
      have := hh.at' (i := t.length) (o := p1) (w := p2) (r := t) ⟨⟨s, hst⟩, rfl⟩
      cases p2 with
      | loc => trivial
      | bar s => exact this.1
    have := SE_n (b := rsv b0 n) (E := fun _ => true) hb
    rwa [SE_all (fun _ _ => rfl)] at this
  refine h rfl (by rw [e2]; simp) (by rw [e3]; simp; omega) (by rw [e4]; simp; omega) ⟨⟨⟨hn.1.trans ?_, hn.2.1.trans ?_, hn.2.2.trans ?_⟩, ?_⟩, hh⟩
  · rw [e1]; exact hsn.1
  · rw [e1]; exact hsn.2.1
  · rw [e1]; exact hsn.2.2
  · rw [← e1, ← e3, ← e4]; exact h1

theorem AW_draw {Q : Exit → St → Prop} {id : Nat} {l : List Oper} (h : DR (AW P (.region id l.toArray true) Q st) P l.toArray st l.length [] l st.nx st.nb (rsv st l.length)) : AW P (.region id l.toArray true) Q st :=
  h rfl (by simp) (by simp) (by simp) trivial

theorem SE_false {b : St} {E : Nat → Bool} : ∀ {l : List (Oper × Wr)}, (∀ i, E i = false) → SE E b l = b
  | [], _ => rfl
  | (o, w) :: r, h => by simp only [SE, h]; exact SE_false h

theorem DR_end {Q : Exit → St → Prop} {id : Nat} (hm : P.follows .mixedOrders = true) (hck : chk ops b0.nb ws = true) (hn : n = ws.length) (h : Q .normal st) :
    DR (AW P (.region id ops true) Q b0) P ops b0 n ws [] τ κ st := by
  intro e1 e2 e3 e4 hh k m a w hi hd
  have hsize : ops.size = ws.length := by rw [e2]; simp
  have hi' : Inv k (rsv b0 n) m a.tmps w.drew := (hi.reserve (nx := b0.nx + 16 * n) (nb := b0.nb + n) (by omega) (by omega)).ext (Ext.drew w)
  have hget : ∀ i, (Array.replicate ops.size false).getD i false = false := fun i => by
    rcases Nat.lt_or_ge i ops.size with h | h
    · simp [h]
    · simp [Array.getElem?_eq_none, h]
  refine wp_region_any hm (draw_main (b := rsv b0 n) (nx := b0.nx) (nb := b0.nb) (full := ws) (by rw [e2]; simp) hck hh (by simp [rsv, hn]) (by simp [rsv, hn]) hi.big hi.bigb ?_ ?_ ops.size (Array.replicate ops.size false) m a _ (by simp [hsize]) ?_ ?_ ?_ hd ?_)
  · intro i
    show getb b0.bx (b0.nb + i) = none
    cases hg : getb b0.bx (b0.nb + i) with
    | none => rfl
    | some ls => have := (hi.box _ ls hg).1; omega
  · intro m' a' w' hi2 hd2
    exact ⟨st, m', h, by rw [e1]; exact hi2, hd2⟩
  · simp [cnt]
  · intro i o w r _ hE
    have hE' : (Array.replicate ops.size false).getD i false = true := hE
    rw [hget] at hE'; cases hE'
  · rw [SE_false hget]; exact hi'
  · intro i hi3 _ j hj
    cases hdd : m.D (b0.nx + 16 * i + j) with
    | false => rfl
    | true => have := hi.n _ hdd; omega

/-! the operations one by one -/
theorem DR_off {st' : St} (hg : goff ops st o) (hs : st.putD o.dst .u = some st') (h : DR G P ops b0 n ((o, .loc .u none []) :: ws) rest (τ + 16) (κ + 1) st') : DR G P ops b0 n ws (o :: rest) τ κ st := by
  obtain ⟨e1, e2⟩ := putD_app [] hs
  refine DR_loc ?_ e1 h
  intro s hN hag hb k m a w hi h1 h2 h3 h4 h5 K' Q hK
  rw [if_neg (by rw [wanted_off hg hN hag hi]; simp)]
  exact hK _ _ m (hi.putD (v := .u) (y := undef) trivial (e2 s hN)) (put_defers _ _ _) fun _ _ h => h

variable {T : Nat → TI}

theorem DR_val (hT : TyOK P T) {p : Prop} {v : A} (hg : gon ops st o) (he : pv T st o = some (p, v)) (hp : p) (hs : st.putD o.dst v = some st')
    (h : DR G P ops b0 n ((o, .loc v none (rdB T st o)) :: ws) rest (τ + 16) (κ + 1) st') : DR G P ops b0 n ws (o :: rest) τ κ st := by
  obtain ⟨e1, e2⟩ := putD_app (rdB T st o) hs
  refine DR_loc (loc_of hg fun s hN hag hb => ?_) e1 h
  exact mono_pv hT ((pv_ag hag hb).trans he) hp (e2 s hN)

theorem DR_valb (hT : TyOK P T) {p : Prop} {d : Nat} {b : Bool} (hd : o.dst = some d) (hg : gon ops st o) (he : pv T st o = some (p, .c (false, [.v (.bool b)]))) (hp : p) (hlt : Nat.blt d st.N = true)
    (ht : b = true → DR G P ops b0 n ((o, .loc (.c (false, [.v (.bool true)])) none (rdB T st o)) :: ws) rest (τ + 16) (κ + 1) { st with env := (d, .c (false, [.v (.bool true)])) :: st.env })
    (hf : b = false → DR G P ops b0 n ((o, .loc (.c (false, [.v (.bool false)])) none (rdB T st o)) :: ws) rest (τ + 16) (κ + 1) { st with env := (d, .c (false, [.v (.bool false)])) :: st.env }) : DR G P ops b0 n ws (o :: rest) τ κ st := by
  cases b with
  | true => exact DR_val hT hg he hp (by simp only [St.putD, hd]; rw [if_pos hlt]) (ht rfl)
  | false => exact DR_val hT hg he hp (by simp only [St.putD, hd]; rw [if_pos hlt]) (hf rfl)

theorem DR_alloc (hT : TyOK P T) {t : Nat} (hg : gon ops st o) (ho : o.op = .alloc t) (ht : hasT T t = true)
    (hs : ({ st with bx := (κ, (T t).zr) :: st.bx } : St).putD o.dst (.c (false, [.pt κ 0])) = some st')
    (h : DR G P ops b0 n ((o, .loc (.c (false, [.pt κ 0])) (some (κ, (T t).zr)) []) :: ws) rest (τ + 16) (κ + 1) st') : DR G P ops b0 n ws (o :: rest) τ κ st := by
  obtain ⟨e1, e2⟩ := putD_app2 [] hs
  exact DR_loc (loc_of hg fun s hN hag hb => mono_alloc hT ho ht (e2 s hN)) e1 h

theorem DR_box (hT : TyOK P T) {t : Nat} {x : Operand} {c : C} (hg : gon ops st o) (ho : o.op = .box t x) (hx : opnd T st 0 x = .c c)
    (hs : ({ st with bx := (κ, c.2) :: st.bx } : St).putD o.dst (.c (false, [.pt κ 0])) = some st')
    (h : DR G P ops b0 n ((o, .loc (.c (false, [.pt κ 0])) (some (κ, c.2)) []) :: ws) rest (τ + 16) (κ + 1) st') : DR G P ops b0 n ws (o :: rest) τ κ st := by
  obtain ⟨e1, e2⟩ := putD_app2 [] hs
  exact DR_loc (loc_of hg fun s hN hag hb => mono_box hT ho (by rw [hag.op (by simp [ho, Op.operands])]; exact hx) (e2 s hN)) e1 h

theorem DR_lit0 (hT : TyOK P T) {t e : Nat} (hg : gon ops st o) (ho : o.op = .buildSlice t 0 #[]) (ht : (T t).d = .sl e) (he : hasT T e = true)
    (hs : st.putD o.dst (.c (false, [.sl (T e).sz 0 0 []])) = some st')
    (h : DR G P ops b0 n ((o, .loc (.c (false, [.sl (T e).sz 0 0 []])) none []) :: ws) rest (τ + 16) (κ + 1) st') : DR G P ops b0 n ws (o :: rest) τ κ st := by
  obtain ⟨e1, e2⟩ := putD_app [] hs
  exact DR_loc (loc_of hg fun s hN hag hb => mono_lit0 hT ho ht he (e2 s hN)) e1 h

theorem DR_lit (hT : TyOK P T) {t e len : Nat} {ps : Array (Nat × Operand)} {xs : List (List Value)} (hg : gon ops st o) (ho : o.op = .buildSlice t len ps) (ht : (T t).d = .sl e) (he : hasT T e = true)
    (hxs : bsl (T e).sz 0 (ps.toList.map fun q => (q.1, opnd T st e q.2)) = some xs) (hlen : ps.toList.length = len) (hsm : len * (T e).sz ≤ 16777216)
    (hs : st.putD o.dst (.c (false, [.sl (T e).sz τ 0 xs])) = some st')
    (h : DR G P ops b0 n ((o, .loc (.c (false, [.sl (T e).sz τ 0 xs])) none []) :: ws) rest (τ + 16) (κ + 1) st') : DR G P ops b0 n ws (o :: rest) τ κ st := by
  obtain ⟨e1, e2⟩ := putD_app [] hs
  refine DR_loc (loc_of hg fun s hN hag hb => mono_lit hT ho ht he ?_ hlen hsm (e2 s hN)) e1 h
  rw [← hxs]
  congr 1
  refine List.map_congr_left fun q hq => ?_
  rw [hag.op (by simp only [ho, Op.operands]; simp; exact ⟨q.1, by simpa using hq⟩)]

/-- An append to an empty slice. -/
theorem DR_append0 (hT : TyOK P T) {t e o1 o2 tg' : Nat} {s x : Operand} {xs ys : List (List Value)} (hg : gon ops st o) (ho : o.op = .call { callee := .builtin .append, args := #[s, x], argTypes := #[t, t] })
    (ht : (T t).d = .sl e) (he : hasT T e = true) (hz0 : 0 < (T e).sz) (hby : 0 < (T e).by') (hzl : (T e).zr.length = (T e).sz)
    (h1 : opnd T st t s = .c (false, [.sl (T e).sz 0 o1 xs])) (h2 : opnd T st t x = .c (false, [.sl (T e).sz tg' o2 ys]))
    (hp : (xs.length + ys.length) * (T e).by' ≤ 140737488355328)
    (hs : st.putD o.dst (.c (false, [.sl (T e).sz τ 0 (xs ++ ys)])) = some st')
    (h : DR G P ops b0 n ((o, .loc (.c (false, [.sl (T e).sz τ 0 (xs ++ ys)])) none []) :: ws) rest (τ + 16) (κ + 1) st') : DR G P ops b0 n ws (o :: rest) τ κ st := by
  obtain ⟨e1, e2⟩ := putD_app [] hs
  exact DR_loc (loc_of hg fun s' hN hag hb => mono_append hT ho ht he hz0 hby hzl (by rw [hag.op (by simp [ho, Op.operands, Call.operands])]; exact h1)
    (by rw [hag.op (by simp [ho, Op.operands, Call.operands])]; exact h2) (.inl rfl) hp (e2 s' hN)) e1 h

theorem argsC_ag {T : Nat → TI} {s' s : St} : ∀ {l : List Operand} {ts : List Nat}, (∀ x ∈ l, ∀ ty, opnd T s' ty x = opnd T s ty x) → argsC T s' l ts = argsC T s l ts
  | [], _, _ => rfl
  | x :: l, [], _ => rfl
  | x :: l, t :: ts, h => by
    simp only [argsC]
    rw [h x (by simp), argsC_ag fun y hy => h y (by simp [hy])]

theorem DR_call (hT : TyOK P T) {f : Nat} {az : Array Operand} {ts : Array Nat} {cs args res rs : List C} (tm : TM) (tr : BM) (hg : gon ops st o)
    (ho : o.op = .call { callee := .value (.func f), args := az, argTypes := ts }) (hcon : Con P f args res) (hcs : argsC T st az.toList ts.toList = some cs)
    (htm : TAok tm = true) (ha : F2 (CMa tm) cs args) (htr : TRok τ tr = true) (hr : F2 (CMr tm tr) res rs)
    (hs : st.putD o.dst (resA rs) = some st') (h : DR G P ops b0 n ((o, .loc (resA rs) none []) :: ws) rest (τ + 16) (κ + 1) st') : DR G P ops b0 n ws (o :: rest) τ κ st := by
  obtain ⟨e1, e2⟩ := putD_app [] hs
  refine DR_loc (loc_of hg fun s' hN hag hb => mono_call hT tm tr ho hcon ?_ htm ha htr hr (e2 s' hN)) e1 h
  rw [argsC_ag (s := st) fun x hx ty => hag.op (by simp [ho, Op.operands, Call.operands]; exact .inr (by simpa using hx)) T ty]
  exact hcs

theorem DR_store (hT : TyOK P T) {t i off : Nat} {x v : Operand} {ls : List L} {c : C} (hg : gon ops st o) (ho : o.op = .store t x v) (hd : o.dst = none) (ht : hasT T t = true)
    (hx : opnd T st 0 x = .c (false, [.pt i off])) (hls : getb st.bx i = some ls) (hv : opnd T st t v = .c c) (hl : c.2.length = (T t).sz) (hfit : off + c.2.length ≤ ls.length)
    (h : DR G P ops b0 n ((o, .loc .u (some (i, ls.take off ++ c.2 ++ ls.drop (off + c.2.length))) [i]) :: ws) rest (τ + 16) (κ + 1) { st with bx := (i, ls.take off ++ c.2 ++ ls.drop (off + c.2.length)) :: st.bx }) :
    DR G P ops b0 n ws (o :: rest) τ κ st := by
  refine DR_loc (loc_of hg fun s' hN hag hb => ?_) (by simp only [app, hd]) h
  have := mono_storeB (τ := τ) (κ := κ) hT (st := s') (ls := ls) (c := c) (off := off) ho hd ht (by rw [hag.op (by simp [ho, Op.operands])]; exact hx) (by rw [hb i (by simp)]; exact hls) (by rw [hag.op (by simp [ho, Op.operands])]; exact hv) hl hfit
  simpa only [app, hd] using this
end
end Go.Proofs.YtlinhogbnmnhjaaDoor.X

namespace Go.Proofs.YtlinhogbnmnhjaaDoor.X
open Go Go.RowKit
set_option linter.unusedVariables false
set_option linter.unusedSimpArgs false
set_option linter.unusedSectionVars false

/-! the table of types -/
def noTI : TI := ⟨.no, 0, 0, []⟩
def OKat (P : Program) (t : Nat) (i : TI) : Prop := i.d = .no ∨ TyI P t i
theorem tyLeaf {P : Program} {k : Nat} {i : TI} (h : TyI P k i) (t : Nat) : OKat P t (bif Nat.beq t k then i else noTI) := by
  cases hb : Nat.beq t k with
  | false => exact .inl rfl
  | true => rw [Nat.eq_of_beq_eq_true hb]; exact .inr h
theorem tyNode {P : Program} {k : Nat} {f g : Nat → TI} (hf : ∀ t, OKat P t (f t)) (hg : ∀ t, OKat P t (g t)) (t : Nat) : OKat P t (bif Nat.blt t k then f t else g t) := by
  cases Nat.blt t k with
  | false => exact hg t
  | true => exact hf t

/-! values as scripts write them -/
abbrev vI (n : Int) : A := .c (false, [.v (.int .i64 n)])
abbrev vB (b : Bool) : A := .c (false, [.v (.bool b)])
abbrev vS (s : List UInt8) : A := .c (false, [.v (.string ⟨⟨s⟩⟩)])
abbrev vL (z t o : Nat) (xs : List (List Value)) : A := .c (false, [.sl z t o xs])
abbrev vP (i o : Nat) : A := .c (false, [.pt i o])
abbrev vE (z t j o : Nat) (e : List Value) : A := .c (false, [.ep z t j o e])
abbrev vR (ls : List L) : A := .c (true, ls)
abbrev lI (n : Int) : L := .v (.int .i64 n)
abbrev lB (b : Bool) : L := .v (.bool b)
abbrev lS (s : List UInt8) : L := .v (.string ⟨⟨s⟩⟩)
abbrev cI (n : Int) : C := (false, [lI n])
abbrev cB (b : Bool) : C := (false, [lB b])
abbrev cS (s : List UInt8) : C := (false, [lS s])
abbrev cL (z t o : Nat) (xs : List (List Value)) : C := (false, [.sl z t o xs])
abbrev eI (n : Int) : List Value := [.int .i64 n]
abbrev eB (b : Bool) : List Value := [.bool b]
abbrev eS (s : List UInt8) : List Value := [.string ⟨⟨s⟩⟩]
abbrev wI (n : Int) : Int := IntKind.i64.wrap n

theorem wI_id {n : Int} (h1 : -9223372036854775808 ≤ n) (h2 : n ≤ 9223372036854775807) : wI n = n := by
  simp only [wI, IntKind.wrap, IntKind.bits, IntKind.signed]
  simp
  split <;> omega

/-- a value written another way -/
theorem eqI {p : Prop} {a b : Int} (h : a = b) : (some (p, vI a) : Option (Prop × A)) = some (p, vI b) := by rw [h]
theorem eqE {p : Prop} {z t j o : Nat} {a b : List Value} (h : a = b) : (some (p, vE z t j o a) : Option (Prop × A)) = some (p, vE z t j o b) := by rw [h]
theorem eqA {p : Prop} {a b : A} (h : a = b) : (some (p, a) : Option (Prop × A)) = some (p, b) := by rw [h]

section
variable {P : Program} [HasPhi P] {Q : Exit → St → Prop} {ops : Array Oper} {rest : List Oper} {o : Oper} {E : Env} {B : List (Nat × List L)} {nx nb N d : Nat}

theorem goN (h : o.guard = none) {st : St} : gon ops st o := by unfold gon; rw [h]; trivial
theorem AL_effg {st st' : St} (hg : gon ops st o) (he : Eff P { o with guard := none } st st') (h : AL P ops Q rest st') : AL P ops Q (o :: rest) st := by
  have h1 : AL P ops Q ({ o with guard := none } :: rest) st := AL_eff rfl he h
  cases hgd : o.guard with
  | none => have : ({ o with guard := none } : Oper) = o := by rw [← hgd]
            rw [this] at h1; exact h1
  | some p =>
    obtain ⟨j, want⟩ := p
    unfold gon at hg
    rw [hgd] at hg
    obtain ⟨d, h2, h3, h4⟩ := hg
    exact AL_on hgd h2 h3 h4 h1

variable {T : Nat → TI}

/-- a value -/
theorem sv (hT : TyOK P T) (v : A) {p : Prop} (he : pv T ⟨E, B, nx, nb, N⟩ o = some (p, v)) (hp : p) (hd : o.dst = some d) (hlt : Nat.blt d N = true) (hg : gon ops ⟨E, B, nx, nb, N⟩ o)
    (h : AL P ops Q rest ⟨(d, v) :: E, B, nx, nb, N⟩) : AL P ops Q (o :: rest) ⟨E, B, nx, nb, N⟩ :=
  AL_effg hg (eff_pv (o := { o with guard := none }) hT he hp (by simp only [St.putD, hd]; rw [if_pos hlt])) h
theorem soff (hg : goff ops ⟨E, B, nx, nb, N⟩ o) (hd : o.dst = some d) (hlt : Nat.blt d N = true) (h : AL P ops Q rest ⟨(d, .u) :: E, B, nx, nb, N⟩) : AL P ops Q (o :: rest) ⟨E, B, nx, nb, N⟩ := by
  cases hgd : o.guard with
  | none => unfold goff at hg; rw [hgd] at hg; exact hg.elim
  | some p =>
    obtain ⟨j, want⟩ := p
    unfold goff at hg
    rw [hgd] at hg
    obtain ⟨d', h2, h3, h4⟩ := hg
    exact AL_off hgd h2 h3 h4 (by simp only [St.putD, hd]; rw [if_pos hlt]) h
/-- a test -/
theorem sb (hT : TyOK P T) {b : Bool} {c p : Prop} (hc : b = true ↔ c) (he : pv T ⟨E, B, nx, nb, N⟩ o = some (p, vB b)) (hp : p) (hd : o.dst = some d) (hlt : Nat.blt d N = true) (hg : gon ops ⟨E, B, nx, nb, N⟩ o)
    (ht : c → AL P ops Q rest ⟨(d, vB true) :: E, B, nx, nb, N⟩) (hf : ¬ c → AL P ops Q rest ⟨(d, vB false) :: E, B, nx, nb, N⟩) : AL P ops Q (o :: rest) ⟨E, B, nx, nb, N⟩ := by
  cases b with
  | true => exact sv hT _ he hp hd hlt hg (ht (hc.1 rfl))
  | false => exact sv hT _ he hp hd hlt hg (hf fun h => by have := hc.2 h; cases this)
theorem salloc (hT : TyOK P T) {t : Nat} (ho : o.op = .alloc t) (ht : hasT T t = true) (hd : o.dst = some d) (hlt : Nat.blt d N = true) {ls : List L} (hz : (T t).zr = ls) (hg : gon ops ⟨E, B, nx, nb, N⟩ o)
    (h : AL P ops Q rest ⟨(d, vP nb 0) :: E, (nb, ls) :: B, nx + 16, nb + 1, N⟩) : AL P ops Q (o :: rest) ⟨E, B, nx, nb, N⟩ :=
  AL_effg hg (eff_mono (mono_alloc (o := { o with guard := none }) hT ho ht (by simp only [St.putD, hd, hz]; rw [if_pos hlt]))) h
theorem sbox (hT : TyOK P T) {t : Nat} {x : Operand} (c : C) (ho : o.op = .box t x) (hx : opnd T ⟨E, B, nx, nb, N⟩ 0 x = .c c) (hd : o.dst = some d) (hlt : Nat.blt d N = true) {ls : List L} (hz : c.2 = ls) (hg : gon ops ⟨E, B, nx, nb, N⟩ o)
    (h : AL P ops Q rest ⟨(d, vP nb 0) :: E, (nb, ls) :: B, nx + 16, nb + 1, N⟩) : AL P ops Q (o :: rest) ⟨E, B, nx, nb, N⟩ :=
  AL_effg hg (eff_mono (mono_box (o := { o with guard := none }) (c := c) hT ho hx (by simp only [St.putD, hd, hz]; rw [if_pos hlt]))) h
theorem slit0 (hT : TyOK P T) {t e : Nat} (ho : o.op = .buildSlice t 0 #[]) (ht : (T t).d = .sl e) (he : hasT T e = true) (hd : o.dst = some d) (hlt : Nat.blt d N = true) {z : Nat} (hz : (T e).sz = z) (hg : gon ops ⟨E, B, nx, nb, N⟩ o)
    (h : AL P ops Q rest ⟨(d, vL z 0 0 []) :: E, B, nx + 16, nb + 1, N⟩) : AL P ops Q (o :: rest) ⟨E, B, nx, nb, N⟩ :=
  AL_effg hg (eff_mono (mono_lit0 (o := { o with guard := none }) hT ho ht he (by simp only [St.putD, hd, hz]; rw [if_pos hlt]))) h
theorem slit (hT : TyOK P T) {t e len : Nat} {ps : Array (Nat × Operand)} (xs : List (List Value)) (ho : o.op = .buildSlice t len ps) (ht : (T t).d = .sl e) (he : hasT T e = true) {z : Nat} (hz : (T e).sz = z)
    (hxs : bsl (T e).sz 0 (ps.toList.map fun q => (q.1, opnd T ⟨E, B, nx, nb, N⟩ e q.2)) = some xs) (hlen : Nat.beq ps.toList.length len = true) (hsm : Nat.ble (len * (T e).sz) 16777216 = true)
    (hd : o.dst = some d) (hlt : Nat.blt d N = true) (hg : gon ops ⟨E, B, nx, nb, N⟩ o)
    (h : AL P ops Q rest ⟨(d, vL z nx 0 xs) :: E, B, nx + 16, nb + 1, N⟩) : AL P ops Q (o :: rest) ⟨E, B, nx, nb, N⟩ :=
  AL_effg hg (eff_mono (mono_lit (o := { o with guard := none }) hT ho ht he
    (by rw [← hxs]; congr 1) (Nat.eq_of_beq_eq_true hlen) (Nat.le_of_ble_eq_true hsm) (by simp only [St.putD, hd, hz]; rw [if_pos hlt]))) h
theorem smake (hT : TyOK P T) {t e : Nat} {l c : Operand} {kl kc : IntKind} {n n' : Int} {zs : List Value} (xs : List (List Value)) (ho : o.op = .makeSlice t l c) (ht : (T t).d = .sl e) (he : hasT T e = true) {z : Nat} (hz' : (T e).sz = z)
    (hl : opnd T ⟨E, B, nx, nb, N⟩ 0 l = .c (false, [.v (.int kl n)])) (hc : opnd T ⟨E, B, nx, nb, N⟩ 0 c = .c (false, [.v (.int kc n')])) (hz : valsL (T e).zr = some zs) (hzl : Nat.beq zs.length (T e).sz = true)
    (hp : 0 ≤ n ∧ n' = n ∧ ((T e).by' : Int) * n ≤ 140737488355328 ∧ n ≤ 9223372036854775807) (hxs : List.replicate n.toNat zs = xs)
    (hd : o.dst = some d) (hlt : Nat.blt d N = true) (hg : gon ops ⟨E, B, nx, nb, N⟩ o)
    (h : AL P ops Q rest ⟨(d, vL z nx 0 xs) :: E, B, nx + 16, nb + 1, N⟩) : AL P ops Q (o :: rest) ⟨E, B, nx, nb, N⟩ :=
  AL_effg hg (eff_mono (mono_make (o := { o with guard := none }) hT ho ht he hl hc hz hp (by simp only [St.putD, hd, hz', hxs]; rw [if_pos hlt]) (Nat.eq_of_beq_eq_true hzl))) h
/-- an append to an empty slice -/
theorem sapp0 (hT : TyOK P T) {t e o1 o2 tg' z : Nat} {s x : Operand} {xs ys : List (List Value)} (zs : List (List Value)) (ho : o.op = .call { callee := .builtin .append, args := #[s, x], argTypes := #[t, t] })
    (ht : (T t).d = .sl e) (he : hasT T e = true) (hck : (Nat.blt 0 (T e).sz && Nat.blt 0 (T e).by' && Nat.beq (T e).zr.length (T e).sz) = true)
    (h1 : opnd T ⟨E, B, nx, nb, N⟩ t s = vL (T e).sz 0 o1 xs) (h2 : opnd T ⟨E, B, nx, nb, N⟩ t x = vL (T e).sz tg' o2 ys)
    (hp : (xs.length + ys.length) * (T e).by' ≤ 140737488355328) (hz : (T e).sz = z) (hzs : xs ++ ys = zs)
    (hd : o.dst = some d) (hlt : Nat.blt d N = true) (hg : gon ops ⟨E, B, nx, nb, N⟩ o)
    (h : AL P ops Q rest ⟨(d, vL z nx 0 zs) :: E, B, nx + 16, nb + 1, N⟩) : AL P ops Q (o :: rest) ⟨E, B, nx, nb, N⟩ := by
  simp only [Bool.and_eq_true, Nat.blt_eq] at hck
  exact AL_effg hg (eff_mono (mono_append (o := { o with guard := none }) hT ho ht he hck.1.1 hck.1.2 (Nat.eq_of_beq_eq_true hck.2) h1 h2 (.inl rfl) hp
    (by show St.putD _ _ _ = _; simp only [killSt, Nat.beq_refl, cond_true, St.putD, hd, hz, hzs]; rw [if_pos hlt]))) h
/-- an append to a slice of one's own: what else was said of it is forgotten -/
theorem sapp (hT : TyOK P T) {t e o1 o2 tg tg' z : Nat} {s x : Operand} {xs ys : List (List Value)} (zs : List (List Value)) (E' : Env) (B' : List (Nat × List L)) (ho : o.op = .call { callee := .builtin .append, args := #[s, x], argTypes := #[t, t] })
    (ht : (T t).d = .sl e) (he : hasT T e = true) (hck : (Nat.blt 0 (T e).sz && Nat.blt 0 (T e).by' && Nat.beq (T e).zr.length (T e).sz && Nat.ble 100 tg) = true)
    (h1 : opnd T ⟨E, B, nx, nb, N⟩ t s = vL (T e).sz tg o1 xs) (h2 : opnd T ⟨E, B, nx, nb, N⟩ t x = vL (T e).sz tg' o2 ys)
    (hp : (xs.length + ys.length) * (T e).by' ≤ 140737488355328) (hz : (T e).sz = z) (hzs : xs ++ ys = zs) (hE : mapE (killL tg) E = E') (hB : mapB (killL tg) B = B')
    (hd : o.dst = some d) (hlt : Nat.blt d N = true) (hg : gon ops ⟨E, B, nx, nb, N⟩ o)
    (h : AL P ops Q rest ⟨(d, vL z nx 0 zs) :: E', B', nx + 16, nb + 1, N⟩) : AL P ops Q (o :: rest) ⟨E, B, nx, nb, N⟩ := by
  simp only [Bool.and_eq_true, Nat.blt_eq] at hck
  have h50 := Nat.le_of_ble_eq_true hck.2
  have h0 : Nat.beq tg 0 = false := beq_false (by omega)
  exact AL_effg hg (eff_mono (mono_append (o := { o with guard := none }) hT ho ht he hck.1.1.1 hck.1.1.2 (Nat.eq_of_beq_eq_true hck.1.2) h1 h2 (.inr h50) hp
    (by show St.putD _ _ _ = _; simp only [killSt, h0, cond_false, St.putD, hd, hz, hzs, hE, hB]; rw [if_pos hlt]))) h
theorem scall (hT : TyOK P T) {f : Nat} {az : Array Operand} {ts : Array Nat} {cs args res rs : List C} (tm : TM) (tr : BM) (hcon : Con P f args res)
    (ho : o.op = .call { callee := .value (.func f), args := az, argTypes := ts }) (hcs : argsC T ⟨E, B, nx, nb, N⟩ az.toList ts.toList = some cs)
    (htm : (TAok tm && TRok nx tr) = true) (ha : F2 (CMa tm) cs args) (hr : F2 (CMr tm tr) res rs)
    (hd : o.dst = some d) (hlt : Nat.blt d N = true) (hg : gon ops ⟨E, B, nx, nb, N⟩ o)
    (h : AL P ops Q rest ⟨(d, resA rs) :: E, B, nx + 16, nb + 1, N⟩) : AL P ops Q (o :: rest) ⟨E, B, nx, nb, N⟩ := by
  simp only [Bool.and_eq_true] at htm
  exact AL_effg hg (eff_mono (mono_call (o := { o with guard := none }) hT tm tr ho hcon ((argsC_ag (s' := ⟨E, B, nx + 16, nb + 1, N⟩) (s := ⟨E, B, nx, nb, N⟩) fun x _ ty => opnd_ag fun _ _ => rfl).trans hcs) htm.1 ha htm.2 hr (by simp only [St.putD, hd]; rw [if_pos hlt]))) h
theorem sst (hT : TyOK P T) {t i off : Nat} {x v : Operand} {ls : List L} {c : C} (ls' : List L) (ho : o.op = .store t x v) (hd : o.dst = none) (ht : hasT T t = true)
    (hx : opnd T ⟨E, B, nx, nb, N⟩ 0 x = vP i off) (hls : getb B i = some ls) (hv : opnd T ⟨E, B, nx, nb, N⟩ t v = .c c) (hl : (Nat.beq c.2.length (T t).sz && Nat.ble (off + c.2.length) ls.length) = true)
    (hls' : ls.take off ++ c.2 ++ ls.drop (off + c.2.length) = ls') (hg : gon ops ⟨E, B, nx, nb, N⟩ o)
    (h : AL P ops Q rest ⟨E, (i, ls') :: B, nx, nb, N⟩) : AL P ops Q (o :: rest) ⟨E, B, nx, nb, N⟩ := by
  simp only [Bool.and_eq_true] at hl
  subst hls'
  exact AL_effg hg (eff_storeB (o := { o with guard := none }) hT ho hd ht hx hls hv (Nat.eq_of_beq_eq_true hl.1) (Nat.le_of_ble_eq_true hl.2)) h
theorem sse (hT : TyOK P T) {t z tg j off : Nat} {x v : Operand} {e vs : List Value} {c : C} (e' : List Value) (E' : Env) (B' : List (Nat × List L)) (ho : o.op = .store t x v) (hd : o.dst = none) (ht : hasT T t = true)
    (hx : opnd T ⟨E, B, nx, nb, N⟩ 0 x = vE z tg j off e) (hv : opnd T ⟨E, B, nx, nb, N⟩ t v = .c c) (hvs : valsL c.2 = some vs)
    (hl : (Nat.ble 50 tg && Nat.blt 0 (T t).sz && Nat.beq c.2.length (T t).sz && Nat.ble (off + (T t).sz) e.length) = true)
    (he' : e.take off ++ vs ++ e.drop (off + vs.length) = e') (hE : mapE (updL z tg j e') E = E') (hB : mapB (updL z tg j e') B = B') (hg : gon ops ⟨E, B, nx, nb, N⟩ o)
    (h : AL P ops Q rest ⟨E', B', nx, nb, N⟩) : AL P ops Q (o :: rest) ⟨E, B, nx, nb, N⟩ := by
  simp only [Bool.and_eq_true, Nat.blt_eq] at hl
  subst he' hE hB
  exact AL_effg hg (eff_storeE (o := { o with guard := none }) hT ho hd ht hl.1.1.2 hx (Nat.le_of_ble_eq_true hl.1.1.1) hv hvs (Nat.eq_of_beq_eq_true hl.1.2) (Nat.le_of_ble_eq_true hl.2)) h
end

/-! the code's frame -/
section
variable {P : Program} [HasPhi P] {Q : Exit → St → Prop} {st : St} {ops : Array Oper}
theorem rN {f : St → Prop} (h : f st) : AL P ops (Th f Q) [] st := AL_nil h
theorem rE (h : Q .normal st) : AL P ops Q [] st := AL_nil h
theorem thN {f : St → Prop} (h : f st) : Th f Q .normal st := h
theorem thE {f : St → Prop} {i : Nat} (h : Q (.exit i) st) : Th f Q (.exit i) st := h
theorem thR {f : St → Prop} (h : Q .ret st) : Th f Q .ret st := h
theorem ibN {i : Nat} (h : Q .normal st) : InB i Q .normal st := h
theorem ibR {i : Nat} (h : Q .ret st) : InB i Q .ret st := h
theorem ibH {i : Nat} (h : Q .normal st) : InB i Q (.exit i) st := by simp only [InB, Nat.beq_refl, cond_true]; exact h
theorem ibM {i j : Nat} (hne : Nat.beq j i = false) (h : Q (.exit j) st) : InB i Q (.exit j) st := by simp only [InB, hne, cond_false]; exact h
theorem cnd {s : Nat} {b : Bool} {c : Prop} {x y : Code} (hc : b = true ↔ c) (hb : get st.env s = vB b) (ht : c → AW P x Q st) (hf : ¬ c → AW P y Q st) : AW P (.cond (.tmp s) x y) Q st :=
  AW_cond hb (fun h => ht (hc.1 h)) (fun h => hf fun h' => by rw [hc.2 h'] at h; cases h)
theorem cndT {s : Nat} {x y : Code} (hb : get st.env s = vB true) (ht : AW P x Q st) : AW P (.cond (.tmp s) x y) Q st := AW_cond hb (fun _ => ht) (fun h => by cases h)
theorem cndF {s : Nat} {x y : Code} (hb : get st.env s = vB false) (ht : AW P y Q st) : AW P (.cond (.tmp s) x y) Q st := AW_cond hb (fun h => by cases h) (fun _ => ht)
/-- two ways meet -/
theorem join {x y : Code} (st1 : St) (h1 : AW P x (Th (fun st' => ∃ tm bm, SM tm bm st' st1) Q) st) (h2 : AW P y Q st1) : AW P (.seq x y) Q st :=
  AW_seq (h1.mono fun e st' h => by
    cases e with
    | normal => obtain ⟨tm, bm, hs⟩ := h; exact AW_weak tm bm hs h2
    | _ => exact h)
theorem lp {α : Type} {c : Code} (S : α → St) (μ : α → Nat) (x0 : α) (tm : TM) (bm : BM) (h0 : SM tm bm st (S x0))
    (round : ∀ x, AW P c (Th (fun st' => ∃ x' tm bm, μ x' < μ x ∧ SM tm bm st' (S x')) Q) (S x)) : AW P (.loop c) Q st := AW_loop S μ x0 tm bm h0 round
end

/-! states compared -/
section
variable {tm : TM} {bm : BM} {e : Env} {s : Nat} {r : Env}
theorem em0 : EM tm bm e [] := trivial
theorem emu (h : EM tm bm e r) : EM tm bm e ((s, .u) :: r) := ⟨trivial, h⟩
theorem emv {x y : Value} (hg : get e s = .c (false, [.v x])) (hxy : x = y) (h : EM tm bm e r) : EM tm bm e ((s, .c (false, [.v y])) :: r) := ⟨by rw [hg]; exact ⟨rfl, hxy, trivial⟩, h⟩
theorem emc {b : Bool} {ls ls' : List L} (hg : get e s = .c (b, ls)) (hl : F2 (LM tm bm) ls ls') (h : EM tm bm e r) : EM tm bm e ((s, .c (b, ls')) :: r) := ⟨by rw [hg]; exact ⟨rfl, hl⟩, h⟩
theorem f20 {α γ : Type} {R : α → γ → Prop} : F2 R [] [] := trivial
theorem f2c {α γ : Type} {R : α → γ → Prop} {a : α} {b : γ} {l : List α} {r : List γ} (h : R a b) (h' : F2 R l r) : F2 R (a :: l) (b :: r) := ⟨h, h'⟩
theorem lmv {x y : Value} (h : x = y) : LM tm bm (.v x) (.v y) := h
theorem lmx {l : L} : LM tm bm l .x := by cases l <;> trivial
theorem lmp {i I o : Nat} (h : lk bm I = some i) : LM tm bm (.pt i o) (.pt I o) := ⟨rfl, h⟩
/-- a row of the arguments' -/
theorem lma {z t o : Nat} {xs ys : List (List Value)} (hx : xs = ys) (ht : Nat.blt t 100 = true) : LM tm bm (.sl z t o xs) (.sl z t o ys) := ⟨rfl, hx, 0, (Nat.zero_add _).symm, by simp [tagM, ht]⟩
/-- a row of one's own -/
theorem lmo {z t T o O s : Nat} {xs ys : List (List Value)} (hx : xs = ys) (ht : Nat.blt T 100 = false) (hk : lk tm T = some (t, s)) (hs : o * z = s + O * z) : LM tm bm (.sl z t o xs) (.sl z T O ys) := ⟨rfl, hx, s, hs, by simp only [tagM, ht, cond_false]; exact hk⟩
theorem xm0 {b : List (Nat × List L)} : XM tm bm b [] := trivial
theorem xmc {b r : List (Nat × List L)} {I i : Nat} {ls ls' : List L} (h1 : lk bm I = some i) (h2 : getb b i = some ls) (h3 : F2 (LM tm bm) ls ls') (h : XM tm bm b r) : XM tm bm b ((I, ls') :: r) := ⟨⟨i, ls, h1, h2, h3⟩, h⟩
theorem sm {st st' : St} (h : (TMok st'.nx tm && BMok st'.nb bm st'.bx && Nat.beq st'.N st.N && Nat.ble 100 st'.nx) = true) (he : EM tm bm st.env st'.env) (hx : XM tm bm st.bx st'.bx) : SM tm bm st st' := by
  simp only [Bool.and_eq_true] at h
  exact ⟨h.1.1.1, h.1.1.2, Nat.eq_of_beq_eq_true h.1.2, h.2, he, hx⟩
end
/-! arguments and results -/
section
variable {tm : TM} {tr : BM}
theorem ca {b : Bool} {ls ls' : List L} (h : F2 (LMa tm) ls ls') : CMa tm (b, ls) (b, ls') := ⟨rfl, h⟩
theorem lav {x y : Value} (h : x = y) : LMa tm (.v x) (.v y) := h
theorem las {z t o T O s : Nat} {xs ys : List (List Value)} (hx : xs = ys) (hk : lk tm T = some (t, s)) (hs : o * z = s + O * z) : LMa tm (.sl z t o xs) (.sl z T O ys) := ⟨rfl, hx, s, hs, hk⟩
theorem cr {b : Bool} {ls ls' : List L} (h : F2 (LMr tm tr) ls ls') : CMr tm tr (b, ls) (b, ls') := ⟨rfl, h⟩
theorem lrv {x : Value} : LMr tm tr (.v x) (.v x) := rfl
theorem lr0 {z O : Nat} {xs : List (List Value)} : LMr tm tr (.sl z 0 O xs) (.sl z 0 O xs) := ⟨rfl, rfl, by simp⟩
theorem lra {z T t o O s : Nat} {xs : List (List Value)} (hT : (Nat.blt 0 T && Nat.blt T 100) = true) (hk : lk tm T = some (t, s)) (hs : o * z = s + O * z) : LMr tm tr (.sl z T O xs) (.sl z t o xs) := by
  simp only [Bool.and_eq_true, Nat.blt_eq] at hT
  refine ⟨rfl, rfl, ?_⟩
  rw [beq_false (by omega), cond_false, show Nat.blt T 100 = true from by simpa [Nat.blt_eq] using hT.2, cond_true]
  exact ⟨s, hk, hs⟩
theorem lrn {z T t O : Nat} {xs : List (List Value)} (hT : Nat.ble 100 T = true) (hk : lk tr t = some T) : LMr tm tr (.sl z T O xs) (.sl z t O xs) := by
  have := Nat.le_of_ble_eq_true hT
  refine ⟨rfl, rfl, ?_⟩
  have h2 : Nat.blt T 100 = false := by cases hb : Nat.blt T 100 with | false => rfl | true => rw [Nat.blt_eq] at hb; omega
  rw [beq_false (by omega), cond_false, h2, cond_false]
  exact ⟨hk, rfl⟩
theorem ends {T : Nat → TI} {rs : List ResultVar} {res : List C} {st : St} (cs : List C) (tm : TM) (h1 : resCs T st rs = some cs) (h2 : TMok 1000000 tm = true) (h3 : F2 (CM tm []) cs res) : Ends T rs res st := ⟨cs, tm, h1, h2, h3⟩
theorem qrR {T : Nat → TI} {rs : List ResultVar} {res : List C} {st : St} (h : Ends T rs res st) : QR T rs res .ret st := h
theorem qrN {T : Nat → TI} {rs : List ResultVar} {res : List C} {st : St} (h : Ends T rs res st) : QR T rs res .normal st := h
theorem cm {bm : BM} {b : Bool} {ls ls' : List L} (h : F2 (LM tm bm) ls ls') : CM tm bm (b, ls) (b, ls') := ⟨rfl, h⟩
end
end Go.Proofs.YtlinhogbnmnhjaaDoor.X
