/- A logic of abstract states over the model: its rules are sound. General: no condition on the program. -/
import Derived.Below
import Derived.CallsIn
import Derived.Laws.Rows
import Derived.Laws.Append
import Derived.Laws.Entries
import Derived.KernelRfl
import Derived.Laws.Strings
import Derived.Laws.StructEq
import Derived.Lib.Strings
import Derived.Laws.CopyRow
import Derived.Great.FillDense
import Derived.Laws.Tables
import Derived.Deep.AppendSrc
set_option linter.all false
section
/- An abstract machine for Go code whose memory is its own: pure data, abstract values, and what they stand for in a world of the model. -/
namespace Go.Pm
open Go.RowKit (Below)

/-! ### 1. Pure data -/
/-- The shape of a map's keys. -/
inductive Bk where
  | str
  | int (k : IntKind)
  | bool
inductive KSh where
  | one (b : Bk)
  | agg (bs : List Bk)

inductive D where
  | int (k : IntKind) (n : Int)
  | bool (b : Bool)
  | str (s : List UInt8)
  | float (k : FloatKind) (bits : Nat)
  | agg (cs : List D)
  | list (sz : Nat) (l : List D)
  | tab (sz n : Nat) (f : Nat → D)
  | nils
  | nilp
  | nilfn
  | nilmap
  | nili
  | fn (f : FuncId)
  | iface (t : TypeId) (x : D)
  | ptr (cs : List D)
  | mapd (sh : KSh) (es : List (Nat × D × D)) (clock : Nat)

instance : Inhabited D := ⟨.nilp⟩

/-- A value's cells. -/
def D.cells : D → List D
  | .agg cs => cs
  | x => [x]
def D.one : D → Bool
  | .agg _ => false
  | _ => true

/-- A list by its length and its elements. -/
def tabl (n : Nat) (f : Nat → D) : List D := (List.range n).map f
theorem tabl_length (n : Nat) (f : Nat → D) : (tabl n f).length = n := by simp [tabl]
theorem tabl_get (n : Nat) (f : Nat → D) (i : Nat) (h : i < n) : (tabl n f)[i]? = some (f i) := by simp [tabl, h]

def kEq : IntKind → IntKind → Bool
  | .i64, .i64 | .i32, .i32 | .i16, .i16 | .i8, .i8 | .u64, .u64 | .u32, .u32 | .u16, .u16 | .u8, .u8 => true
  | _, _ => false
theorem kEq_eq {k k' : IntKind} (h : kEq k k' = true) : k = k' := by cases k <;> cases k' <;> first | rfl | cases h

def Bk.has : Bk → D → Bool
  | .str, .str _ => true
  | .int k, .int k' _ => kEq k k'
  | .bool, .bool _ => true
  | _, _ => false
def Bk.hasAll : List Bk → List D → Bool
  | [], [] => true
  | b :: bs, d :: ds => b.has d && Bk.hasAll bs ds
  | _, _ => false
def KSh.has : KSh → D → Bool
  | .one b, d => b.has d
  | .agg bs, .agg ds => Bk.hasAll bs ds
  | _, _ => false

/-- What a datum stands for: its cells lie in blocks that are ok. -/
inductive DRel (ok : Nat → Prop) (w : World) : D → Value → Prop where
  | int (k : IntKind) (n : Int) : DRel ok w (.int k n) (.int k n)
  | bool (b : Bool) : DRel ok w (.bool b) (.bool b)
  | str (l : List UInt8) (hs : l.length ≤ maxLen) : DRel ok w (.str l) (.string ⟨l.toArray⟩)
  | float (k : FloatKind) (b : Nat) : DRel ok w (.float k b) (.float k b)
  | agg (cs : List D) (vs : List Value) (hl : vs.length = cs.length) (ho : ∀ (i : Nat) (c : D), cs[i]? = some c → D.one c = true)
      (h : ∀ (i : Nat) (c : D) (v : Value), cs[i]? = some c → vs[i]? = some v → DRel ok w c v) : DRel ok w (.agg cs) (.agg vs.toArray)
  | empty (sz : Nat) (b : Option Addr) (c : Nat) (hc : c ≤ maxLen) : DRel ok w (.list sz []) (.slice b 0 c)
  | list (sz : Nat) (l : List D) (a : Addr) (c : Nat) (vs : Nat → Nat → Value) (hl : l.length ≤ c) (hc : c ≤ maxLen)
      (hok : ∀ (i : Nat) (x : D) (j : Nat) (u : D), l[i]? = some x → (D.cells x)[j]? = some u → ok a.block)
      (hsz : ∀ (i : Nat) (x : D), l[i]? = some x → (D.cells x).length = sz)
      (hone : ∀ (i : Nat) (x : D) (j : Nat) (u : D), l[i]? = some x → (D.cells x)[j]? = some u → D.one u = true)
      (hcell : ∀ (i : Nat) (x : D) (j : Nat) (u : D), l[i]? = some x → (D.cells x)[j]? = some u → w.cell? (a.add (i * sz + j)) = some (vs i j))
      (h : ∀ (i : Nat) (x : D) (j : Nat) (u : D), l[i]? = some x → (D.cells x)[j]? = some u → DRel ok w u (vs i j)) : DRel ok w (.list sz l) (.slice (some a) l.length c)
  | tab (sz n : Nat) (f : Nat → D) (v : Value) (h : DRel ok w (.list sz (tabl n f)) v) : DRel ok w (.tab sz n f) v
  | nils : DRel ok w .nils (.slice none 0 0)
  | nilp : DRel ok w .nilp (.pointer none)
  | nilfn : DRel ok w .nilfn .nilFunc
  | nilmap : DRel ok w .nilmap (.map none)
  | nili : DRel ok w .nili .nilIface
  | fn (f : FuncId) : DRel ok w (.fn f) (.func (.func f) #[] #[])
  | iface (t : TypeId) (x : D) (v : Value) (h : DRel ok w x v) : DRel ok w (.iface t x) (.iface t v)
  | ptr (cs : List D) (a : Addr) (vs : Nat → Value) (hok : ok a.block) (hone : ∀ (j : Nat) (u : D), cs[j]? = some u → D.one u = true)
      (hcell : ∀ (j : Nat) (u : D), cs[j]? = some u → w.cell? (a.add j) = some (vs j)) (h : ∀ (j : Nat) (u : D), cs[j]? = some u → DRel ok w u (vs j)) (hb : a.block < w.heap.size) : DRel ok w (.ptr cs) (.pointer (some a))
  | mapd (sh : KSh) (es : List (Nat × D × D)) (clock : Nat) (k : Nat) (E : Array MapEntry) (hok : ok k) (hg : w.heap[k]? = some (.map E clock)) (hl : E.size = es.length)
      (hsh : ∀ (i : Nat) (q : Nat × D × D), es[i]? = some q → sh.has q.2.1 = true)
      (hborn : ∀ (i : Nat) (q : Nat × D × D) (e : MapEntry), es[i]? = some q → E[i]? = some e → e.born = q.1)
      (hkey : ∀ (i : Nat) (q : Nat × D × D) (e : MapEntry), es[i]? = some q → E[i]? = some e → DRel ok w q.2.1 e.key)
      (hval : ∀ (i : Nat) (q : Nat × D × D) (e : MapEntry), es[i]? = some q → E[i]? = some e → DRel ok w q.2.2 e.val) : DRel ok w (.mapd sh es clock) (.map (some k))

/-- What a change of the world keeps: blocks that are ok. -/
structure Keeps (ok ok' : Nat → Prop) (w w' : World) : Prop where
  oks : ∀ k, k < w.heap.size → ok k → ok' k
  block : ∀ k, k < w.heap.size → ok k → w'.heap[k]? = w.heap[k]?

theorem add_block (a : Addr) (n : Nat) : (a.add n).block = a.block := by unfold Addr.add; split <;> rfl

theorem cell_keeps {ok ok' : Nat → Prop} {w w' : World} (hk : Keeps ok ok' w w') {a : Addr} {v : Value} (ho : ok a.block) (h : w.cell? a = some v) : w'.cell? a = some v := by
  have hlt := World.block_lt_of_cell? w a h
  unfold World.cell? at h ⊢
  rw [hk.block _ hlt ho]; exact h

theorem DRel.keep {ok ok' : Nat → Prop} {w w' : World} (hk : Keeps ok ok' w w') {x : D} {v : Value} (h : DRel ok w x v) : DRel ok' w' x v := by
  induction h with
  | int k n => exact .int k n
  | bool b => exact .bool b
  | str l hs => exact .str l hs
  | float k b => exact .float k b
  | agg cs vs hl ho _ ih => exact .agg cs vs hl ho ih
  | empty sz b c hc => exact .empty sz b c hc
  | list sz l a c vs hl hc hok hsz hone hcell _ ih =>
    refine .list sz l a c vs hl hc (fun i x j u h1 h2 => ?_) hsz hone (fun i x j u h1 h2 => ?_) ih
    · have := World.block_lt_of_cell? w _ (hcell i x j u h1 h2)
      rw [add_block] at this
      exact hk.oks _ this (hok i x j u h1 h2)
    · exact cell_keeps hk (by rw [add_block]; exact hok i x j u h1 h2) (hcell i x j u h1 h2)
  | tab sz n f v _ ih => exact .tab sz n f v ih
  | nils => exact .nils
  | nilp => exact .nilp
  | nilfn => exact .nilfn
  | nilmap => exact .nilmap
  | nili => exact .nili
  | fn f => exact .fn f
  | iface t x v _ ih => exact .iface t x v ih
  | ptr cs a vs hok hone hcell _ hb ih =>
    exact .ptr cs a vs (hk.oks _ hb hok) hone (fun j u hj => cell_keeps hk (by rw [add_block]; exact hok) (hcell j u hj)) ih (by
      have := hk.block _ hb hok
      rw [Array.getElem?_eq_getElem hb] at this
      exact (Array.getElem?_eq_some_iff.1 this).1)
  | mapd sh es clock k E hok hg hl hsh hborn _ _ ih1 ih2 =>
    have hb : k < w.heap.size := (Array.getElem?_eq_some_iff.1 hg).1
    exact .mapd sh es clock k E (hk.oks _ hb hok) (by rw [hk.block _ hb hok]; exact hg) hl hsh hborn ih1 ih2

theorem DRel.listCell {ok : Nat → Prop} {w : World} {sz : Nat} {l : List D} {v : Value} (h : DRel ok w (.list sz l) v) : v.oneCell' = true := by
  cases h <;> rfl
/-- One cell of data is one cell of memory. -/
theorem DRel.oneCell {ok : Nat → Prop} {w : World} {x : D} {v : Value} (h : DRel ok w x v) (ho : x.one = true) : v.oneCell' = true := by
  cases h <;> first | rfl | (simp [D.one] at ho; done) | (rename_i h; exact h.listCell)

theorem cells_one {v : Value} (h : v.oneCell' = true) : v.cells = #[v] := by cases v <;> first | rfl | cases h

/-! ### 2. Abstract values -/
inductive AV where
  | d (x : D)
  | tt
  | ff
  | ptr (b off : Nat)
  | rptr (b ver sz i off : Nat)
  | own (b ver sz : Nat)
  | cut (b ver sz off m : Nat)
  | rd (cs : List D)
  | fn (f : FuncId) (caps : List AV)
  | yld (l : Nat)
  | map (b : Nat)
  | agg (cs : List AV)
  | tup (cs : List AV)
  | iface (t : TypeId) (x : AV)
  | cnd (c : Bool) (x y : AV)
  | junk

instance : Inhabited AV := ⟨.junk⟩

/-- Where an object of the abstract heap lies: its block, its version (0: it never moves), its size. -/
structure Bind where
  blk : Nat
  ver : Nat
  size : Nat
  len : Nat
  subs : Nat → Prop

/-- A row without cells has no block of its own. -/
def Bind.real (bd : Bind) : Prop := 0 < bd.ver → 0 < bd.size
theorem Bind.real0 {bd : Bind} (h : bd.ver = 0) : bd.real := fun h' => by omega
/-- The blocks that are an object's own. -/
def Bind.has (bd : Bind) (k : Nat) : Prop := (bd.real ∧ bd.blk = k) ∨ bd.subs k
theorem Bind.has_blk {bd : Bind} (h : bd.real) : bd.has bd.blk := .inl ⟨h, rfl⟩
def noSub : Nat → Prop := fun _ => False

/-- Where the abstract heap's objects lie; and which blocks are not somebody else's. -/
structure Mu where
  pos : Nat → Option Bind
  out : Nat → Prop
instance : CoeFun Mu (fun _ => Nat → Option Bind) := ⟨Mu.pos⟩

/-- No object lies there. -/
def Mu.free (μ : Mu) (k : Nat) : Prop := ∀ i bd, μ i = some bd → ¬ bd.has k
def okOf (μ : Mu) (k : Nat) : Prop := μ.out k ∧ μ.free k

inductive ARel (n : Nat) (μ : Mu) (w : World) : AV → Value → Prop where
  | d (x : D) (v : Value) (h : DRel (okOf μ) w x v) : ARel n μ w (.d x) v
  | tt : ARel n μ w .tt (.bool true)
  | ff : ARel n μ w .ff (.bool false)
  | ptr (b off : Nat) (a : Addr) (hb : b < n) (h : ∀ bd, μ b = some bd → bd.ver = 0 → a = ⟨bd.blk, off, none⟩) : ARel n μ w (.ptr b off) (.pointer (some a))
  | rptr (b ver sz i off : Nat) (a : Addr) (hb : b < n) (hv : ∀ bd, μ b = some bd → ver ≤ bd.ver) (h0 : 0 < ver) (h : ∀ bd, μ b = some bd → bd.ver = ver → a = ⟨bd.blk, i * sz + off, none⟩) : ARel n μ w (.rptr b ver sz i off) (.pointer (some a))
  | own (b ver sz m : Nat) (a : Option Addr) (c : Nat) (hb : b < n) (hn : m ≤ c) (hc : c ≤ maxLen) (hv : ∀ bd, μ b = some bd → ver ≤ bd.ver) (h0 : 0 < ver)
      (h : ∀ bd, μ b = some bd → bd.ver = ver → (0 < c → a = some ⟨bd.blk, 0, none⟩) ∧ c * sz ≤ bd.size ∧ m = bd.len) : ARel n μ w (.own b ver sz) (.slice a m c)
  | cut (b ver sz off m : Nat) (a : Addr) (c : Nat) (hb : b < n) (hn : m ≤ c) (hc : c ≤ maxLen) (hv : ∀ bd, μ b = some bd → ver ≤ bd.ver) (h0 : 0 < ver)
      (h : ∀ bd, μ b = some bd → bd.ver = ver → (0 < c → a = ⟨bd.blk, off * sz, none⟩) ∧ (off + c) * sz ≤ bd.size) : ARel n μ w (.cut b ver sz off m) (.slice (some a) m c)
  | rd (cs : List D) (a : Addr) (vs : Nat → Value) (hok : ∀ (j : Nat) (u : D), cs[j]? = some u → okOf μ a.block) (hone : ∀ (j : Nat) (u : D), cs[j]? = some u → D.one u = true)
      (hcell : ∀ (j : Nat) (u : D), cs[j]? = some u → w.cell? (a.add j) = some (vs j)) (h : ∀ (j : Nat) (u : D), cs[j]? = some u → DRel (okOf μ) w u (vs j)) : ARel n μ w (.rd cs) (.pointer (some a))
  | fn (f : FuncId) (caps : List AV) (vs : List Value) (hl : vs.length = caps.length) (h : ∀ (i : Nat) (c : AV) (v : Value), caps[i]? = some c → vs[i]? = some v → ARel n μ w c v) : ARel n μ w (.fn f caps) (.func (.func f) #[] vs.toArray)
  | yld (l k : Nat) (hb : l < n) (h : ∀ bd, μ l = some bd → bd.ver = 0 → k = bd.blk) : ARel n μ w (.yld l) (.func (.yield k) #[] #[])
  | map (b k : Nat) (hb : b < n) (h : ∀ bd, μ b = some bd → bd.ver = 0 → k = bd.blk) : ARel n μ w (.map b) (.map (some k))
  | agg (cs : List AV) (vs : List Value) (hl : vs.length = cs.length) (ho : ∀ (i : Nat) (v : Value), vs[i]? = some v → v.oneCell' = true) (h : ∀ (i : Nat) (c : AV) (v : Value), cs[i]? = some c → vs[i]? = some v → ARel n μ w c v) : ARel n μ w (.agg cs) (.agg vs.toArray)
  | tup (cs : List AV) (vs : List Value) (hl : vs.length = cs.length) (h : ∀ (i : Nat) (c : AV) (v : Value), cs[i]? = some c → vs[i]? = some v → ARel n μ w c v) : ARel n μ w (.tup cs) (.tuple vs.toArray)
  | iface (t : TypeId) (x : AV) (v : Value) (h : ARel n μ w x v) : ARel n μ w (.iface t x) (.iface t v)
  | cnd (c : Bool) (x y : AV) (v : Value) (h1 : c = true → ARel n μ w x v) (h2 : c = false → ARel n μ w y v) : ARel n μ w (.cnd c x y) v
  | junk (v : Value) : ARel n μ w .junk v

/-! ### 3. How the world may go on -/
/-- From (μ, w) to (μ', w'): what the abstract heap doesn't hold is as it was; what it holds stays at its place, or moves with a newer version, or goes. -/
structure Ext (n : Nat) (μ : Mu) (w : World) (μ' : Mu) (w' : World) : Prop where
  os : w'.os = w.os
  tape : w'.tape = w.tape
  output : w'.output = w.output
  size : w.heap.size ≤ w'.heap.size
  out : μ'.out = μ.out
  keep : ∀ k, k < w.heap.size → μ.free k → w'.heap[k]? = w.heap[k]?
  old : ∀ i bd', i < n → μ' i = some bd' → ∃ bd, μ i = some bd ∧ ((∃ s, bd' = { bd with subs := s }) ∨ (bd.ver < bd'.ver ∧ 0 < bd.ver))
  frees : ∀ k, k < w.heap.size → μ.free k → μ'.free k

theorem Ext.keeps {n : Nat} {μ μ' : Mu} {w w' : World} (h : Ext n μ w μ' w') : Keeps (okOf μ) (okOf μ') w w' :=
  ⟨fun k hk ho => ⟨by rw [h.out]; exact ho.1, h.frees k hk ho.2⟩, fun k hk ho => h.keep k hk ho.2⟩

/-- An abstract value stands for what it stood for. -/
theorem ARel.ext {n n' : Nat} {μ μ' : Mu} {w w' : World} (h : Ext n μ w μ' w') (hn : n ≤ n') {x : AV} {v : Value} (hr : ARel n μ w x v) : ARel n' μ' w' x v := by
  induction hr with
  | d x v h1 => exact .d x v (h1.keep h.keeps)
  | tt => exact .tt
  | ff => exact .ff
  | ptr b off a hb h1 =>
    refine .ptr b off a (by omega) (fun bd' hb' h0 => ?_)
    obtain ⟨bd, hbd, ⟨_, rfl⟩ | ⟨h2, _⟩⟩ := h.old b bd' hb hb'
    · exact h1 bd hbd h0
    · omega
  | rptr b ver sz i off a hb hv h0 h1 =>
    refine .rptr b ver sz i off a (by omega) (fun bd' hb' => ?_) h0 (fun bd' hb' hv' => ?_)
    · obtain ⟨bd, hbd, ⟨_, rfl⟩ | ⟨h2, _⟩⟩ := h.old b bd' hb hb'
      · exact hv bd hbd
      · have := hv bd hbd; omega
    · obtain ⟨bd, hbd, ⟨_, rfl⟩ | ⟨h2, _⟩⟩ := h.old b bd' hb hb'
      · exact h1 bd hbd hv'
      · have := hv bd hbd; omega
  | own b ver sz m a c hb hn hc hv h0 h1 =>
    refine .own b ver sz m a c (by omega) hn hc (fun bd' hb' => ?_) h0 (fun bd' hb' hv' => ?_)
    · obtain ⟨bd, hbd, ⟨_, rfl⟩ | ⟨h2, _⟩⟩ := h.old b bd' hb hb'
      · exact hv bd hbd
      · have := hv bd hbd; omega
    · obtain ⟨bd, hbd, ⟨_, rfl⟩ | ⟨h2, _⟩⟩ := h.old b bd' hb hb'
      · exact h1 bd hbd hv'
      · have := hv bd hbd; omega
  | cut b ver sz off m a c hb hn hc hv h0 h1 =>
    refine .cut b ver sz off m a c (by omega) hn hc (fun bd' hb' => ?_) h0 (fun bd' hb' hv' => ?_)
    · obtain ⟨bd, hbd, ⟨_, rfl⟩ | ⟨h2, _⟩⟩ := h.old b bd' hb hb'
      · exact hv bd hbd
      · have := hv bd hbd; omega
    · obtain ⟨bd, hbd, ⟨_, rfl⟩ | ⟨h2, _⟩⟩ := h.old b bd' hb hb'
      · exact h1 bd hbd hv'
      · have := hv bd hbd; omega
  | rd cs a vs hok hone hcell h1 =>
    refine .rd cs a vs (fun j u hj => ?_) hone (fun j u hj => cell_keeps h.keeps (by rw [add_block]; exact hok j u hj) (hcell j u hj)) (fun j u hj => (h1 j u hj).keep h.keeps)
    have := World.block_lt_of_cell? w _ (hcell j u hj)
    rw [add_block] at this
    exact h.keeps.oks _ this (hok j u hj)
  | fn f caps vs hl _ ih => exact .fn f caps vs hl ih
  | yld l k hb h1 =>
    refine .yld l k (by omega) (fun bd' hb' h0 => ?_)
    obtain ⟨bd, hbd, ⟨_, rfl⟩ | ⟨h2, _⟩⟩ := h.old l bd' hb hb'
    · exact h1 bd hbd h0
    · omega
  | map b k hb h1 =>
    refine .map b k (by omega) (fun bd' hb' h0 => ?_)
    obtain ⟨bd, hbd, ⟨_, rfl⟩ | ⟨h2, _⟩⟩ := h.old b bd' hb hb'
    · exact h1 bd hbd h0
    · omega
  | agg cs vs hl ho _ ih => exact .agg cs vs hl ho ih
  | tup cs vs hl _ ih => exact .tup cs vs hl ih
  | iface t x v _ ih => exact .iface t x v ih
  | cnd c x y v _ _ ih1 ih2 => exact .cnd c x y v ih1 ih2
  | junk v => exact .junk v

theorem Ext.refl (n : Nat) (μ : Mu) (w : World) (_hi : ∀ i, n ≤ i → μ i = none) : Ext n μ w μ w :=
  ⟨rfl, rfl, rfl, Nat.le_refl _, rfl, fun _ _ _ => rfl, fun _ bd' _ h => ⟨bd', h, .inl ⟨_, rfl⟩⟩, fun _ _ h => h⟩

theorem Ext.trans {n n' : Nat} {μ μ' μ'' : Mu} {w w' w'' : World} (h : Ext n μ w μ' w') (hn : n ≤ n') (k : Ext n' μ' w' μ'' w'') : Ext n μ w μ'' w'' := by
  have hs := h.size
  refine ⟨k.os.trans h.os, k.tape.trans h.tape, k.output.trans h.output, Nat.le_trans h.size k.size, k.out.trans h.out, fun i hi ho => ?_, fun i bd'' hi hb => ?_, fun i hi ho => k.frees i (by omega) (h.frees i hi ho)⟩
  · rw [k.keep i (Nat.lt_of_lt_of_le hi h.size) (h.frees i hi ho), h.keep i hi ho]
  · obtain ⟨bd', hb', h2⟩ := k.old i bd'' (by omega) hb
    obtain ⟨bd, hb0, h1⟩ := h.old i bd' hi hb'
    refine ⟨bd, hb0, ?_⟩
    rcases h2 with ⟨_, rfl⟩ | ⟨a2, b2⟩
    · rcases h1 with ⟨_, rfl⟩ | h1
      · exact .inl ⟨_, rfl⟩
      · exact .inr h1
    · rcases h1 with ⟨_, rfl⟩ | ⟨a1, b1⟩
      · exact .inr ⟨a2, b2⟩
      · exact .inr ⟨by omega, b1⟩

end Go.Pm
end
section
/- The abstract heap and the abstract state of a function's run, and what they stand for. -/
namespace Go.Pm

/-- A value is brought to its head. -/
def AV.force (x : AV) (K : AV → Prop) : Prop :=
  match x with
  | .d x => K (.d x)
  | .tt => K .tt
  | .ff => K .ff
  | .ptr b o => K (.ptr b o)
  | .rptr b v s i o => K (.rptr b v s i o)
  | .own b v s => K (.own b v s)
  | .cut b v s o m => K (.cut b v s o m)
  | .rd cs => K (.rd cs)
  | .fn f cs => K (.fn f cs)
  | .yld l => K (.yld l)
  | .map b => K (.map b)
  | .agg cs => K (.agg cs)
  | .tup cs => K (.tup cs)
  | .iface t x => K (.iface t x)
  | .cnd c x y => K (.cnd c x y)
  | .junk => K .junk
theorem AV.force_iff (x : AV) (K : AV → Prop) : AV.force x K ↔ K x := by cases x <;> exact Iff.rfl

def forceL : List AV → (List AV → Prop) → Prop
  | [], K => K []
  | x :: r, K => AV.force x fun y => forceL r fun q => K (y :: q)
theorem forceL_iff : ∀ (l : List AV) (K : List AV → Prop), forceL l K ↔ K l
  | [], _ => Iff.rfl
  | x :: r, K => by simp only [forceL]; rw [AV.force_iff]; exact forceL_iff r _

inductive AObj where
  | gone
  | var (cs : List AV) (t : TypeId)
  | dvar (n : Nat) (f : Nat → D) (t : TypeId)
  | row (e : TypeId) (sz : Nat) (l : List D) (ver : Nat)
  | nest (e e2 : TypeId) (sz2 : Nat) (ll : List (List D)) (ver : Nat) (hole : Option (Nat × AV))
  | map (sh : KSh) (es : List (Nat × D × D)) (clock : Nat)
  | siter (s : List UInt8) (pos : Nat)
  | miter (m : Option Nat) (since : Nat) (seen : List Nat) (stepped : Nat)
  | diter (sh : KSh) (es : List (Nat × D × D)) (clock since : Nat) (seen : List Nat) (stepped : Nat)
  | loop (st : LoopState) (pend : Option Code) (fn : FuncId) (N : Nat) (tm : List (Nat × AV)) (params : Array Tmp) (assign body : Code)

instance : Inhabited AObj := ⟨.gone⟩

def hget : List (Nat × AObj) → Nat → AObj
  | [], _ => .gone
  | (i, o) :: r, k => cond (Nat.beq k i) o (hget r k)

/-- The newest row of an object counts. -/
structure Heap where
  log : List (Nat × AObj)
  nx : Nat

def Heap.get : Heap → Nat → AObj
  | ⟨log, _⟩, k => hget log k
def Heap.set : Heap → Nat → AObj → Heap
  | ⟨log, nx⟩, k, o => ⟨(k, o) :: log, nx⟩
def Heap.push : Heap → AObj → Heap
  | ⟨log, nx⟩, o => ⟨(nx, o) :: log, nx + 1⟩

theorem Heap.get_set (h : Heap) (k i : Nat) (o : AObj) : (h.set k o).get i = if i = k then o else h.get i := by
  simp only [Heap.get, Heap.set, hget]
  by_cases e : i = k
  · subst e; simp
  · rw [if_neg e]
    have : Nat.beq i k = false := by
      cases hb : Nat.beq i k with
      | false => rfl
      | true => exact absurd (Nat.eq_of_beq_eq_true hb) e
    rw [this]; rfl
theorem Heap.get_push (h : Heap) (i : Nat) (o : AObj) : (h.push o).get i = if i = h.nx then o else h.get i := Heap.get_set h h.nx i o

def look : List (Nat × AV) → Nat → AV
  | [], _ => .junk
  | (i, v) :: r, k => cond (Nat.beq k i) v (look r k)

theorem look_cons (i k : Nat) (v : AV) (r : List (Nat × AV)) : look ((i, v) :: r) k = if k = i then v else look r k := by
  simp only [look]
  by_cases e : k = i
  · subst e; simp
  · rw [if_neg e]
    have : Nat.beq k i = false := by
      cases hb : Nat.beq k i with
      | false => rfl
      | true => exact absurd (Nat.eq_of_beq_eq_true hb) e
    rw [this]; rfl

/-- The cells of a row. -/
structure RowCells (μ : Mu) (w : World) (sz : Nat) (l : List D) (C : Array Value) : Prop where
  fits : l.length * sz ≤ C.size
  len : ∀ (i : Nat) (x : D), l[i]? = some x → (D.cells x).length = sz
  cell : ∀ (i : Nat) (x : D) (j : Nat) (u : D), l[i]? = some x → (D.cells x)[j]? = some u → D.one u = true ∧ ∃ v, C[i * sz + j]? = some v ∧ DRel (okOf μ) w u v

/-- No cell of a row is frozen. -/
def RowAt (w : World) (k : Nat) (C : Array Value) (e : TypeId) : Prop := ∃ fz, w.heap[k]? = some (.cells C e fz) ∧ ∀ i, i < C.size → ¬ (fz.1 ≤ i ∧ i < fz.2)

/-- A slice whose row, if it has one, is one's own. -/
def SubOk (μ : Mu) (w : World) (e2 : TypeId) (sz2 : Nat) (l : List D) (v : Value) (own : Nat → Prop) : Prop :=
  ∃ base c, v = .slice base l.length c ∧ l.length ≤ c ∧ c ≤ maxLen ∧ (0 < c → ∃ k C, base = some ⟨k, 0, none⟩ ∧ own k ∧ RowAt w k C e2 ∧ c * sz2 ≤ C.size ∧ RowCells μ w sz2 l C)
/-- What lies in a cell of such slices: the slice, or what was put there. -/
def NestAt (n : Nat) (μ : Mu) (w : World) (e2 : TypeId) (sz2 : Nat) (hole : Option (Nat × AV)) (i : Nat) (l : List D) (v : Value) (own : Nat → Prop) : Prop :=
  match hole with
  | some (j, x) => if i = j then ARel n μ w x v ∧ v.oneCell' = true else SubOk μ w e2 sz2 l v own
  | none => SubOk μ w e2 sz2 l v own

def ORel (n : Nat) (μ : Mu) (w : World) : AObj → Option Bind → Prop
  | .gone, b => b = none
  | .var cs t, b => ∃ bd C, b = some bd ∧ bd.ver = 0 ∧ w.heap[bd.blk]? = some (.cells C t (0, 0)) ∧ C.size = cs.length ∧
      ∀ (j : Nat) (c : AV) (v : Value), cs[j]? = some c → C[j]? = some v → ARel n μ w c v ∧ v.oneCell' = true
  | .dvar m f t, b => ∃ bd C, b = some bd ∧ bd.ver = 0 ∧ w.heap[bd.blk]? = some (.cells C t (0, 0)) ∧ C.size = ((tabl m f).map AV.d).length ∧
      ∀ (j : Nat) (c : AV) (v : Value), ((tabl m f).map AV.d)[j]? = some c → C[j]? = some v → ARel n μ w c v ∧ v.oneCell' = true
  | .row e sz l ver, b => ∃ bd C, b = some bd ∧ bd.ver = ver ∧ (0 < ver ∧ 0 < sz) ∧ (bd.real → RowAt w bd.blk C e) ∧ C.size = bd.size ∧ bd.len = l.length ∧ RowCells μ w sz l C
  | .nest e e2 sz2 ll ver hole, b => ∃ (bd : Bind) (C : Array Value) (S : Nat → Nat → Prop), b = some bd ∧ bd.ver = ver ∧ (0 < ver ∧ 0 < sz2) ∧ (bd.real → RowAt w bd.blk C e) ∧ C.size = bd.size ∧ bd.len = ll.length ∧ ll.length ≤ C.size ∧ (∀ i k, S i k → bd.subs k) ∧ (∀ i j k, S i k → S j k → i = j) ∧
      (bd.real → ¬ bd.subs bd.blk) ∧ ∀ (i : Nat) (l : List D), ll[i]? = some l → ∃ v, C[i]? = some v ∧ NestAt n μ w e2 sz2 hole i l v (S i)
  | .map sh es clock, b => ∃ bd E, b = some bd ∧ bd.ver = 0 ∧ w.heap[bd.blk]? = some (.map E clock) ∧ E.size = es.length ∧ (∀ (i : Nat) (q : Nat × D × D), es[i]? = some q → sh.has q.2.1 = true) ∧
      ∀ (i : Nat) (q : Nat × D × D) (e : MapEntry), es[i]? = some q → E[i]? = some e → e.born = q.1 ∧ DRel (okOf μ) w q.2.1 e.key ∧ DRel (okOf μ) w q.2.2 e.val
  | .siter s pos, b => ∃ bd, b = some bd ∧ bd.ver = 0 ∧ w.heap[bd.blk]? = some (.stringIter ⟨s.toArray⟩ pos)
  | .miter m since seen stepped, b => ∃ bd, b = some bd ∧ bd.ver = 0 ∧ ∃ m', w.heap[bd.blk]? = some (.mapIter m' since seen.toArray stepped) ∧
      (match m with | none => m' = none | some k => k < n ∧ ∃ k', m' = some k' ∧ ∀ bd', μ k = some bd' → bd'.ver = 0 → k' = bd'.blk)
  | .diter sh es clock since seen stepped, b => ∃ bd, b = some bd ∧ bd.ver = 0 ∧ ∃ k', w.heap[bd.blk]? = some (.mapIter (some k') since seen.toArray stepped) ∧ DRel (okOf μ) w (.mapd sh es clock) (.map (some k'))
  | .loop st pend fn N tm params assign body, b => ∃ bd, b = some bd ∧ bd.ver = 0 ∧ ∃ r : Loop, w.heap[bd.blk]? = some (.loop r) ∧ r.state = st ∧ r.pending = pend ∧ r.fn = fn ∧ r.tmps.size = N ∧
      (∀ d, ARel n μ w (look tm d) (r.tmps.getD d undef)) ∧ r.params = params ∧ r.assign = assign ∧ r.body = body

structure HRel (h : Heap) (μ : Mu) (w : World) : Prop where
  outs : ∀ i bd k, μ i = some bd → bd.has k → μ.out k
  fresh : ∀ k, w.heap.size ≤ k → μ.out k
  obj : ∀ i, ORel h.nx μ w (h.get i) (μ i)
  hi : ∀ i, h.nx ≤ i → μ i = none
  inj : ∀ i j bi bj k, μ i = some bi → μ j = some bj → bi.has k → bj.has k → i = j
  lts : ∀ i bd k, μ i = some bd → bd.has k → k < w.heap.size

theorem RowAt.other {w w' : World} {k : Nat} {C : Array Value} {e : TypeId} (h : RowAt w k C e) (hk : w'.heap[k]? = w.heap[k]?) : RowAt w' k C e := by
  unfold RowAt; rw [hk]; exact h
theorem RowCells.ext {n : Nat} {μ μ' : Mu} {w w' : World} (h : Ext n μ w μ' w') {sz : Nat} {l : List D} {C : Array Value} (hr : RowCells μ w sz l C) : RowCells μ' w' sz l C :=
  ⟨hr.fits, hr.len, fun i x j u h1 h2 => by
    obtain ⟨q, v, hv, hd⟩ := hr.cell i x j u h1 h2
    exact ⟨q, v, hv, hd.keep h.keeps⟩⟩
theorem SubOk.ext {n : Nat} {μ μ' : Mu} {w w' : World} (h : Ext n μ w μ' w') {e2 : TypeId} {sz2 : Nat} {l : List D} {v : Value} {own : Nat → Prop} (hk : ∀ k, own k → w'.heap[k]? = w.heap[k]?) (hs : SubOk μ w e2 sz2 l v own) : SubOk μ' w' e2 sz2 l v own := by
  obtain ⟨base, c, h1, h2, h3, h4⟩ := hs
  refine ⟨base, c, h1, h2, h3, fun h0 => ?_⟩
  obtain ⟨k, C, g1, g2, g3, g4, g5⟩ := h4 h0
  exact ⟨k, C, g1, g2, g3.other (hk k g2), g4, g5.ext h⟩
theorem NestAt.ext {n n' : Nat} {μ μ' : Mu} {w w' : World} (h : Ext n μ w μ' w') (hn : n ≤ n') {e2 : TypeId} {sz2 : Nat} {hole : Option (Nat × AV)} {i : Nat} {l : List D} {v : Value} {own : Nat → Prop} (hk : ∀ k, own k → w'.heap[k]? = w.heap[k]?) (hs : NestAt n μ w e2 sz2 hole i l v own) : NestAt n' μ' w' e2 sz2 hole i l v own := by
  unfold NestAt at hs ⊢
  split at hs
  · split at hs
    · rename_i hij; rw [if_pos hij]; exact ⟨hs.1.ext h hn, hs.2⟩
    · rename_i hij; rw [if_neg hij]; exact hs.ext h hk
  · exact hs.ext h hk

/-- An object that lies where it lay, in a world that goes on. -/
theorem ORel.ext {n n' : Nat} {μ μ' : Mu} {w w' : World} (h : Ext n μ w μ' w') (hn : n ≤ n') {o : AObj} {b : Option Bind} (hbk : ∀ bd k, b = some bd → bd.has k → w'.heap[k]? = w.heap[k]?)
    (ho : ORel n μ w o b) : ORel n' μ' w' o b := by
  have hb : ∀ bd, b = some bd → bd.real → w'.heap[bd.blk]? = w.heap[bd.blk]? := fun bd h1 h2 => hbk bd _ h1 (Bind.has_blk h2)
  cases o with
  | gone => exact ho
  | var cs t =>
    obtain ⟨bd, C, rfl, hv, hc, hl, hr⟩ := ho
    exact ⟨bd, C, rfl, hv, by rw [hb bd rfl (Bind.real0 hv)]; exact hc, hl, fun j c v h1 h2 => ⟨(hr j c v h1 h2).1.ext h hn, (hr j c v h1 h2).2⟩⟩
  | dvar m f t =>
    obtain ⟨bd, C, rfl, hv, hc, hl, hr⟩ := ho
    exact ⟨bd, C, rfl, hv, by rw [hb bd rfl (Bind.real0 hv)]; exact hc, hl, fun j c v h1 h2 => ⟨(hr j c v h1 h2).1.ext h hn, (hr j c v h1 h2).2⟩⟩
  | row e sz l ver =>
    obtain ⟨bd, C, rfl, hv, h0, hc, hl, hlen, hr⟩ := ho
    exact ⟨bd, C, rfl, hv, h0, fun hre => by unfold RowAt; rw [hb bd rfl hre]; exact hc hre, hl, hlen, hr.fits, hr.len, fun i x j u h1 h2 => by
      obtain ⟨q, v, hv, hd⟩ := hr.cell i x j u h1 h2
      exact ⟨q, v, hv, hd.keep h.keeps⟩⟩
  | nest e e2 sz2 ll ver hole =>
    obtain ⟨bd, C, S, rfl, hv, h0, hc, hl, hlen, hle, hs1, hs2, hs3, hr⟩ := ho
    refine ⟨bd, C, S, rfl, hv, h0, fun hre => by unfold RowAt; rw [hb bd rfl hre]; exact hc hre, hl, hlen, hle, hs1, hs2, hs3, fun i l h1 => ?_⟩
    obtain ⟨v, g1, g2⟩ := hr i l h1
    exact ⟨v, g1, g2.ext h hn fun k hk => hbk bd k rfl (.inr (hs1 i k hk))⟩
  | map sh es clock =>
    obtain ⟨bd, E, rfl, hv, hc, hl, hsh, hr⟩ := ho
    exact ⟨bd, E, rfl, hv, by rw [hb bd rfl (Bind.real0 hv)]; exact hc, hl, hsh, fun i q e h1 h2 => ⟨(hr i q e h1 h2).1, (hr i q e h1 h2).2.1.keep h.keeps, (hr i q e h1 h2).2.2.keep h.keeps⟩⟩
  | siter s pos =>
    obtain ⟨bd, rfl, hv, hc⟩ := ho
    exact ⟨bd, rfl, hv, by rw [hb bd rfl (Bind.real0 hv)]; exact hc⟩
  | miter m since seen stepped =>
    obtain ⟨bd, rfl, hv, m', hc, hm⟩ := ho
    refine ⟨bd, rfl, hv, m', by rw [hb bd rfl (Bind.real0 hv)]; exact hc, ?_⟩
    cases m with
    | none => exact hm
    | some k =>
      obtain ⟨hk, k', rfl, hq⟩ := hm
      refine ⟨by omega, k', rfl, fun bd' h1 h0 => ?_⟩
      obtain ⟨bd0, hbd0, ⟨_, rfl⟩ | ⟨h2, _⟩⟩ := h.old k bd' hk h1
      · exact hq bd0 hbd0 h0
      · omega
  | diter sh es clock since seen stepped =>
    obtain ⟨bd, rfl, hv, k', hc, hd⟩ := ho
    exact ⟨bd, rfl, hv, k', by rw [hb bd rfl (Bind.real0 hv)]; exact hc, hd.keep h.keeps⟩
  | loop st pend fn N tm params assign body =>
    obtain ⟨bd, rfl, hv, r, hc, h1, h2, h3, h4, h5, h6, h7, h8⟩ := ho
    exact ⟨bd, rfl, hv, r, by rw [hb bd rfl (Bind.real0 hv)]; exact hc, h1, h2, h3, h4, fun d => (h5 d).ext h hn, h6, h7, h8⟩

theorem row_real {sz k : Nat} {l : List D} {bd : Bind} (hsz : 0 < sz) (hf : l.length * sz ≤ bd.size) (hk : k < l.length) : bd.real := fun _ => by
  have := Nat.mul_lt_mul_of_pos_right hk hsz
  omega

theorem HRel.lt {h : Heap} {μ : Mu} {w : World} (hr : HRel h μ w) {i : Nat} {bd : Bind} (hb : μ i = some bd) (hre : bd.real) : bd.blk < w.heap.size :=
  hr.lts i bd _ hb (Bind.has_blk hre)

def muSet (μ : Mu) (k : Nat) (b : Option Bind) : Mu := ⟨fun i => if i = k then b else μ i, μ.out⟩
theorem muSet_at (μ : Mu) (k : Nat) (b : Option Bind) (i : Nat) : (muSet μ k b).pos i = if i = k then b else μ.pos i := rfl

/-- A new object. -/
theorem HRel.push {h : Heap} {μ : Mu} {w w' : World} (hr : HRel h μ w) (o : AObj) (O : Obj) (bd : Bind) (hblk : bd.blk = w.heap.size) (hsub : ∀ k, ¬ bd.subs k) (hw : w' = w.alloc O)
    (ho : Ext h.nx μ w (muSet μ h.nx (some bd)) w' → ORel (h.nx + 1) (muSet μ h.nx (some bd)) w' o (some bd)) :
    HRel (h.push o) (muSet μ h.nx (some bd)) w' ∧ Ext h.nx μ w (muSet μ h.nx (some bd)) w' := by
  subst hw
  have hat : ∀ k, bd.has k → k = w.heap.size := fun k hk => by
    rcases hk with ⟨_, hk⟩ | hk
    · omega
    · exact absurd hk (hsub k)
  have hext : Ext h.nx μ w (muSet μ h.nx (some bd)) (w.alloc O) := by
    refine ⟨rfl, rfl, rfl, by simp, rfl, fun k hk _ => RowKit.Below.heap_alloc w O k hk, fun i bd' hi hb => ?_, fun k hk hf i bd' hb hh => ?_⟩
    · rw [muSet_at, if_neg (by omega)] at hb
      exact ⟨bd', hb, .inl ⟨_, rfl⟩⟩
    · by_cases e : i = h.nx
      · subst e; rw [muSet_at, if_pos rfl] at hb; cases hb; have := hat k hh; omega
      · rw [muSet_at, if_neg e] at hb; exact hf i bd' hb hh
  refine ⟨⟨fun i b k hb hk => ?_, fun k hk => hr.fresh k (by simp at hk; omega), fun i => ?_, fun i hi => ?_, fun i j bi bj k hi hj hki hkj => ?_, fun i b k hb hk => ?_⟩, hext⟩
  · by_cases e : i = h.nx
    · subst e; rw [muSet_at, if_pos rfl] at hb; cases hb; rw [hat k hk]; exact hr.fresh _ (by omega)
    · rw [muSet_at, if_neg e] at hb; exact hr.outs i b k hb hk
  · rw [Heap.get_push]
    by_cases e : i = h.nx
    · subst e; rw [if_pos rfl, muSet_at, if_pos rfl]; exact ho hext
    · rw [if_neg e, muSet_at, if_neg e]
      exact (hr.obj i).ext hext (Nat.le_succ _) (fun bd' k hb' hk => RowKit.Below.heap_alloc w O _ (hr.lts i bd' k hb' hk))
  · have hi' : h.nx + 1 ≤ i := hi
    rw [muSet_at, if_neg (by omega)]
    exact hr.hi i (by omega)
  · by_cases ei : i = h.nx <;> by_cases ej : j = h.nx
    · omega
    · rw [muSet_at, if_pos ei] at hi; rw [muSet_at, if_neg ej] at hj; cases hi
      have := hr.lts j bj k hj hkj; have := hat k hki; omega
    · rw [muSet_at, if_neg ei] at hi; rw [muSet_at, if_pos ej] at hj; cases hj
      have := hr.lts i bi k hi hki; have := hat k hkj; omega
    · rw [muSet_at, if_neg ei] at hi; rw [muSet_at, if_neg ej] at hj
      exact hr.inj i j bi bj k hi hj hki hkj
  · have hsz : (w.alloc O).heap.size = w.heap.size + 1 := by simp
    rw [hsz]
    by_cases e : i = h.nx
    · subst e; rw [muSet_at, if_pos rfl] at hb; cases hb; have := hat k hk; omega
    · rw [muSet_at, if_neg e] at hb; have := hr.lts i b k hb hk; omega

/-- An object that lies nowhere. -/
theorem HRel.ghostO {h : Heap} {μ : Mu} {w : World} (hr : HRel h μ w) (o : AObj)
    (ho : Ext h.nx μ w (muSet μ h.nx (some ⟨w.heap.size, 1, 0, 0, noSub⟩)) w → ORel (h.nx + 1) (muSet μ h.nx (some ⟨w.heap.size, 1, 0, 0, noSub⟩)) w o (some ⟨w.heap.size, 1, 0, 0, noSub⟩)) :
    HRel (h.push o) (muSet μ h.nx (some ⟨w.heap.size, 1, 0, 0, noSub⟩)) w ∧ Ext h.nx μ w (muSet μ h.nx (some ⟨w.heap.size, 1, 0, 0, noSub⟩)) w := by
  have nre : ∀ k, ¬ Bind.has ⟨w.heap.size, 1, 0, 0, noSub⟩ k := fun k hk => by
    rcases hk with ⟨h1, _⟩ | h1
    · exact absurd (h1 Nat.one_pos) (Nat.lt_irrefl 0)
    · exact h1
  have hext : Ext h.nx μ w (muSet μ h.nx (some ⟨w.heap.size, 1, 0, 0, noSub⟩)) w := by
    refine ⟨rfl, rfl, rfl, Nat.le_refl _, rfl, fun k hk _ => rfl, fun i bd' hi hb => ?_, fun k hk hf i bd' hb hh => ?_⟩
    · rw [muSet_at, if_neg (by omega)] at hb
      exact ⟨bd', hb, .inl ⟨_, rfl⟩⟩
    · by_cases e : i = h.nx
      · subst e; rw [muSet_at, if_pos rfl] at hb; cases hb; exact nre k hh
      · rw [muSet_at, if_neg e] at hb; exact hf i bd' hb hh
  refine ⟨⟨fun i b k hb hk => ?_, hr.fresh, fun i => ?_, fun i hi => ?_, fun i j bi bj k hi hj hki hkj => ?_, fun i b k hb hk => ?_⟩, hext⟩
  · by_cases e : i = h.nx
    · subst e; rw [muSet_at, if_pos rfl] at hb; cases hb; exact absurd hk (nre k)
    · rw [muSet_at, if_neg e] at hb; exact hr.outs i b k hb hk
  · rw [Heap.get_push]
    by_cases e : i = h.nx
    · subst e; rw [if_pos rfl, muSet_at, if_pos rfl]; exact ho hext
    · rw [if_neg e, muSet_at, if_neg e]
      exact (hr.obj i).ext hext (Nat.le_succ _) (fun bd' k hb' hk => rfl)
  · have hi' : h.nx + 1 ≤ i := hi
    rw [muSet_at, if_neg (by omega)]
    exact hr.hi i (by omega)
  · by_cases ei : i = h.nx <;> by_cases ej : j = h.nx
    · omega
    · rw [muSet_at, if_pos ei] at hi; cases hi; exact absurd hki (nre k)
    · rw [muSet_at, if_pos ej] at hj; cases hj; exact absurd hkj (nre k)
    · rw [muSet_at, if_neg ei] at hi; rw [muSet_at, if_neg ej] at hj
      exact hr.inj i j bi bj k hi hj hki hkj
  · by_cases e : i = h.nx
    · subst e; rw [muSet_at, if_pos rfl] at hb; cases hb; exact absurd hk (nre k)
    · rw [muSet_at, if_neg e] at hb; exact hr.lts i b k hb hk
theorem HRel.ghost {h : Heap} {μ : Mu} {w : World} (hr : HRel h μ w) (e : TypeId) (sz : Nat) (hsz : 0 < sz) :
    HRel (h.push (.row e sz [] 1)) (muSet μ h.nx (some ⟨w.heap.size, 1, 0, 0, noSub⟩)) w ∧ Ext h.nx μ w (muSet μ h.nx (some ⟨w.heap.size, 1, 0, 0, noSub⟩)) w :=
  hr.ghostO _ fun _ => ⟨_, #[], rfl, rfl, ⟨Nat.one_pos, hsz⟩, fun hre => absurd (hre Nat.one_pos) (Nat.lt_irrefl 0), rfl, rfl, ⟨by simp, fun i x h => by simp at h, fun i x j u h => by simp at h⟩⟩
theorem HRel.ghostN {h : Heap} {μ : Mu} {w : World} (hr : HRel h μ w) (e e2 : TypeId) (sz2 : Nat) (hsz : 0 < sz2) :
    HRel (h.push (.nest e e2 sz2 [] 1 none)) (muSet μ h.nx (some ⟨w.heap.size, 1, 0, 0, noSub⟩)) w ∧ Ext h.nx μ w (muSet μ h.nx (some ⟨w.heap.size, 1, 0, 0, noSub⟩)) w :=
  hr.ghostO _ fun _ => ⟨_, #[], fun _ _ => False, rfl, rfl, ⟨Nat.one_pos, hsz⟩, fun hre => absurd (hre Nat.one_pos) (Nat.lt_irrefl 0), rfl, rfl, Nat.le_refl _, fun _ _ h => h.elim, fun _ _ _ h => h.elim, fun _ h => h, fun i l h => by simp at h⟩

/-- Two heaps whose objects say the same. -/
theorem HRel.same {h h' : Heap} {μ : Mu} {w : World} (hr : HRel h μ w) (hn : h'.nx = h.nx) (hs : ∀ i b, ORel h.nx μ w (h.get i) b → ORel h.nx μ w (h'.get i) b) : HRel h' μ w :=
  ⟨hr.outs, hr.fresh, fun i => by rw [hn]; exact hs i _ (hr.obj i), fun i hi => hr.hi i (by omega), hr.inj, hr.lts⟩

/-- An object is written where it lies: one of its blocks. -/
theorem HRel.writeAt {h : Heap} {μ : Mu} {w w' : World} (hr : HRel h μ w) (k : Nat) (bd : Bind) (q : Nat) (hb : μ k = some bd) (hrb : bd.has q) (o : AObj)
    (hos : w'.os = w.os) (htape : w'.tape = w.tape) (hout : w'.output = w.output) (hsize : w.heap.size = w'.heap.size) (hblock : ∀ i, i ≠ q → w'.heap[i]? = w.heap[i]?)
    (ho : Ext h.nx μ w μ w' → ORel h.nx μ w' o (some bd)) : HRel (h.set k o) μ w' ∧ Ext h.nx μ w μ w' := by
  have hext : Ext h.nx μ w μ w' :=
    ⟨hos, htape, hout, Nat.le_of_eq hsize, rfl, fun i _ hok => hblock i (fun e => hok k bd hb (by rw [e]; exact hrb)), fun i bd' _ h1 => ⟨bd', h1, .inl ⟨_, rfl⟩⟩, fun _ _ h => h⟩
  refine ⟨⟨hr.outs, fun k hk => hr.fresh k (by omega), fun i => ?_, hr.hi, hr.inj, fun i b k hb hk => by rw [← hsize]; exact hr.lts i b k hb hk⟩, hext⟩
  rw [Heap.get_set]
  by_cases e : i = k
  · subst e; rw [if_pos rfl, hb]; exact ho hext
  · rw [if_neg e]
    exact (hr.obj i).ext hext (Nat.le_refl _) (fun bd' k' hb' hk => hblock _ (fun e' => e (hr.inj i k bd' bd q hb' hb (by rw [← e']; exact hk) hrb)))
theorem HRel.write {h : Heap} {μ : Mu} {w w' : World} (hr : HRel h μ w) (k : Nat) (bd : Bind) (hb : μ k = some bd) (hrb : bd.real) (o : AObj)
    (hos : w'.os = w.os) (htape : w'.tape = w.tape) (hout : w'.output = w.output) (hsize : w.heap.size = w'.heap.size) (hblock : ∀ i, i ≠ bd.blk → w'.heap[i]? = w.heap[i]?)
    (ho : Ext h.nx μ w μ w' → ORel h.nx μ w' o (some bd)) : HRel (h.set k o) μ w' ∧ Ext h.nx μ w μ w' :=
  hr.writeAt k bd bd.blk hb (Bind.has_blk hrb) o hos htape hout hsize hblock ho

/-- An object moves: to a new block, or stays, and is of a newer version. -/
theorem HRel.move {h : Heap} {μ : Mu} {w w' : World} (hr : HRel h μ w) (k : Nat) (bd bd' : Bind) (hk : k < h.nx) (hb : μ k = some bd) (o : AObj) (hv : bd.ver < bd'.ver) (h0 : 0 < bd.ver)
    (hos : w'.os = w.os) (htape : w'.tape = w.tape) (hout : w'.output = w.output) (hsize : w.heap.size ≤ w'.heap.size)
    (hblk : ∀ q, bd'.has q → bd.has q ∨ (w.heap.size ≤ q ∧ q < w'.heap.size)) (hblock : ∀ i, i < w.heap.size → (bd.real → i ≠ bd.blk) → w'.heap[i]? = w.heap[i]?)
    (ho : Ext h.nx μ w (muSet μ k (some bd')) w' → ORel h.nx (muSet μ k (some bd')) w' o (some bd')) : HRel (h.set k o) (muSet μ k (some bd')) w' ∧ Ext h.nx μ w (muSet μ k (some bd')) w' := by
  have hext : Ext h.nx μ w (muSet μ k (some bd')) w' := by
    refine ⟨hos, htape, hout, hsize, rfl, fun i hi hok => hblock i hi (fun hre e => hok k bd hb (by rw [e]; exact Bind.has_blk hre)), fun i bd2 hi h1 => ?_, fun q hq hf i bd2 h1 h2 => ?_⟩
    · by_cases e : i = k
      · subst e; rw [muSet_at, if_pos rfl] at h1; cases h1
        exact ⟨bd, hb, .inr ⟨hv, h0⟩⟩
      · rw [muSet_at, if_neg e] at h1; exact ⟨bd2, h1, .inl ⟨_, rfl⟩⟩
    · by_cases e : i = k
      · subst e; rw [muSet_at, if_pos rfl] at h1; cases h1
        rcases hblk q h2 with h3 | h3
        · exact hf i bd hb h3
        · omega
      · rw [muSet_at, if_neg e] at h1; exact hf i bd2 h1 h2
  have old : ∀ i b q, (muSet μ k (some bd')).pos i = some b → b.has q → (w.heap.size ≤ q ∧ q < w'.heap.size ∧ i = k) ∨ ∃ b0, μ i = some b0 ∧ b0.has q := by
    intro i b q hb2 hq
    by_cases e : i = k
    · subst e; rw [muSet_at, if_pos rfl] at hb2; cases hb2
      rcases hblk q hq with h3 | h3
      · exact .inr ⟨bd, hb, h3⟩
      · exact .inl ⟨h3.1, h3.2, rfl⟩
    · rw [muSet_at, if_neg e] at hb2; exact .inr ⟨b, hb2, hq⟩
  refine ⟨⟨fun i b q hb2 hq => ?_, fun k hk => hr.fresh k (by omega), fun i => ?_, fun i hi => ?_, fun i j bi bj q hi hj hqi hqj => ?_, fun i b q hb2 hq => ?_⟩, hext⟩
  · show μ.out q
    rcases old i b q hb2 hq with h3 | ⟨b0, h3, h4⟩
    · exact hr.fresh _ h3.1
    · exact hr.outs i b0 q h3 h4
  · rw [Heap.get_set]
    by_cases e : i = k
    · subst e; rw [if_pos rfl, muSet_at, if_pos rfl]; exact ho hext
    · rw [if_neg e, muSet_at, if_neg e]
      exact (hr.obj i).ext hext (Nat.le_refl _) (fun bd2 q hb2 hq => hblock _ (hr.lts i bd2 q hb2 hq) (fun hrb e' => e (hr.inj i k bd2 bd q hb2 hb hq (by rw [e']; exact Bind.has_blk hrb))))
  · have hi' : h.nx ≤ i := hi
    rw [muSet_at, if_neg (by omega)]; exact hr.hi i hi
  · rcases old i bi q hi hqi with h3 | ⟨b0, h3, h4⟩ <;> rcases old j bj q hj hqj with h5 | ⟨b1, h5, h6⟩
    · omega
    · have := hr.lts j b1 q h5 h6; omega
    · have := hr.lts i b0 q h3 h4; omega
    · exact hr.inj i j b0 b1 q h3 h5 h4 h6
  · rcases old i b q hb2 hq with h3 | ⟨b0, h3, h4⟩
    · omega
    · have := hr.lts i b0 q h3 h4; omega

/-- An object is forgotten: what it held is as pure as any memory from now on. -/
theorem HRel.drop {h : Heap} {μ : Mu} {w : World} (hr : HRel h μ w) (k : Nat) : HRel (h.set k .gone) (muSet μ k none) w ∧ Ext h.nx μ w (muSet μ k none) w := by
  have at_ : ∀ i bd, (muSet μ k none).pos i = some bd → i ≠ k ∧ μ i = some bd := by
    intro i bd h1
    by_cases e : i = k
    · subst e; rw [muSet_at, if_pos rfl] at h1; cases h1
    · rw [muSet_at, if_neg e] at h1; exact ⟨e, h1⟩
  have hext : Ext h.nx μ w (muSet μ k none) w :=
    ⟨rfl, rfl, rfl, Nat.le_refl _, rfl, fun _ _ _ => rfl, fun i bd2 hi h1 => ⟨bd2, (at_ i bd2 h1).2, .inl ⟨_, rfl⟩⟩, fun q _ hf i bd2 h1 h2 => hf i bd2 (at_ i bd2 h1).2 h2⟩
  refine ⟨⟨fun i b q hb2 hq => hr.outs i b q (at_ i b hb2).2 hq, hr.fresh, fun i => ?_, fun i hi => ?_, fun i j bi bj q hi hj hqi hqj => hr.inj i j bi bj q (at_ i bi hi).2 (at_ j bj hj).2 hqi hqj, fun i b q hb2 hq => hr.lts i b q (at_ i b hb2).2 hq⟩, hext⟩
  · rw [Heap.get_set]
    by_cases e : i = k
    · subst e; rw [if_pos rfl, muSet_at, if_pos rfl]; rfl
    · rw [if_neg e, muSet_at, if_neg e]
      exact (hr.obj i).ext hext (Nat.le_refl _) (fun _ _ _ _ => rfl)
  · have hi' : h.nx ≤ i := hi
    by_cases e : i = k
    · rw [muSet_at, if_pos e]
    · rw [muSet_at, if_neg e]; exact hr.hi i hi

/-! ### The state of a run -/
structure St where
  tm : List (Nat × AV)
  hp : Heap
  rnd : Option Nat
  df : Nat

def St.tag (s : St) : Option Nat × Nat := (s.rnd, s.df)

/-- The marks that ranges over functions leave on an activation's deferred calls: their blocks are newer than z; there is nothing in them. -/
structure Marks (z : Nat) (μ : Mu) (w : World) (ds : List Deferred) : Prop where
  each : ∀ d ∈ ds, ∃ B, d = { target := .collected B, args := #[] } ∧ z ≤ B ∧ okOf μ B ∧ w.heap[B]? = some (.deferred (some []))
  nodup : ds.Nodup
  le : z ≤ w.heap.size

structure SRel (N : Nat) (s : St) (μ : Mu) (a : Act) (w : World) : Prop where
  tm : ∀ d, ARel s.hp.nx μ w (look s.tm d) (a.tmps.getD d undef)
  size : a.tmps.size = N
  hp : HRel s.hp μ w
  df : Marks s.df μ w a.defers

theorem Marks.ext {n z : Nat} {μ μ' : Mu} {w w' : World} (h : Ext n μ w μ' w') {ds : List Deferred} (hm : Marks z μ w ds) : Marks z μ' w' ds := by
  refine ⟨fun d hd => ?_, hm.nodup, Nat.le_trans hm.le h.size⟩
  obtain ⟨B, rfl, hz, ho, hB⟩ := hm.each d hd
  have hlt : B < w.heap.size := (Array.getElem?_eq_some_iff.1 hB).1
  exact ⟨B, rfl, hz, h.keeps.oks _ hlt ho, by rw [h.keep _ hlt ho.2]; exact hB⟩

/-- A block without cells is written. -/
structure Shut (w w' : World) (B : Nat) : Prop where
  size : w'.heap.size = w.heap.size
  other : ∀ k, k ≠ B → w'.heap[k]? = w.heap[k]?
  was : ∃ c, w.heap[B]? = some (.deferred c)

theorem Shut.cell {w w' : World} {B : Nat} (h : Shut w w' B) {a : Addr} {v : Value} (hc : w.cell? a = some v) : w'.cell? a = some v := by
  have : a.block ≠ B := by
    intro e
    obtain ⟨c, hw⟩ := h.was
    rw [← e] at hw
    simp [World.cell?, hw] at hc
  unfold World.cell? at hc ⊢
  rw [h.other _ this]; exact hc
theorem DRel.shut {ok : Nat → Prop} {w w' : World} {B : Nat} (hs : Shut w w' B) {x : D} {v : Value} (h : DRel ok w x v) : DRel ok w' x v := by
  induction h with
  | int k n => exact .int k n
  | bool b => exact .bool b
  | str l hs => exact .str l hs
  | float k b => exact .float k b
  | agg cs vs hl ho _ ih => exact .agg cs vs hl ho ih
  | empty sz b c hc => exact .empty sz b c hc
  | list sz l a c vs hl hc hok hsz hone hcell _ ih => exact .list sz l a c vs hl hc hok hsz hone (fun i x j u h1 h2 => hs.cell (hcell i x j u h1 h2)) ih
  | tab sz n f v _ ih => exact .tab sz n f v ih
  | nils => exact .nils
  | nilp => exact .nilp
  | nilfn => exact .nilfn
  | nilmap => exact .nilmap
  | nili => exact .nili
  | fn f => exact .fn f
  | iface t x v _ ih => exact .iface t x v ih
  | ptr cs a vs hok hone hcell _ hb ih => exact .ptr cs a vs hok hone (fun j u hj => hs.cell (hcell j u hj)) ih (by rw [hs.size]; exact hb)
  | mapd sh es clock k E hok hg hl hsh hborn _ _ ih1 ih2 =>
    have hne : k ≠ B := by
      intro e
      obtain ⟨c, hw⟩ := hs.was
      rw [← e, hg] at hw; cases hw
    exact .mapd sh es clock k E hok (by rw [hs.other _ hne]; exact hg) hl hsh hborn ih1 ih2
theorem ARel.shut {n : Nat} {μ : Mu} {w w' : World} {B : Nat} (hs : Shut w w' B) {x : AV} {v : Value} (h : ARel n μ w x v) : ARel n μ w' x v := by
  induction h with
  | d x v h1 => exact .d x v (h1.shut hs)
  | tt => exact .tt
  | ff => exact .ff
  | ptr b off a hb h1 => exact .ptr b off a hb h1
  | rptr b ver sz i off a hb hv h0 h1 => exact .rptr b ver sz i off a hb hv h0 h1
  | own b ver sz m a c hb hn hc hv h0 h1 => exact .own b ver sz m a c hb hn hc hv h0 h1
  | cut b ver sz off m a c hb hn hc hv h0 h1 => exact .cut b ver sz off m a c hb hn hc hv h0 h1
  | rd cs a vs hok hone hcell h1 => exact .rd cs a vs hok hone (fun j u hj => hs.cell (hcell j u hj)) fun j u hj => (h1 j u hj).shut hs
  | fn f caps vs hl _ ih => exact .fn f caps vs hl ih
  | yld l k hb h1 => exact .yld l k hb h1
  | map b k hb h1 => exact .map b k hb h1
  | agg cs vs hl ho _ ih => exact .agg cs vs hl ho ih
  | tup cs vs hl _ ih => exact .tup cs vs hl ih
  | iface t x v _ ih => exact .iface t x v ih
  | cnd c x y v _ _ ih1 ih2 => exact .cnd c x y v ih1 ih2
  | junk v => exact .junk v
theorem HRel.shut {h : Heap} {μ : Mu} {w w' : World} {B : Nat} (hs : Shut w w' B) (hB : μ.free B) (hh : HRel h μ w) : HRel h μ w' := by
  refine ⟨hh.outs, fun k hk => hh.fresh k (by rw [← hs.size]; exact hk), fun i => ?_, hh.hi, hh.inj, fun i b k hb hk => by rw [hs.size]; exact hh.lts i b k hb hk⟩
  have ho := hh.obj i
  have atk : ∀ bd k, μ.pos i = some bd → bd.has k → w'.heap[k]? = w.heap[k]? := fun bd k hb hk => hs.other _ (fun e => hB i bd hb (by rw [← e]; exact hk))
  have at_ : ∀ bd, μ.pos i = some bd → bd.real → w'.heap[bd.blk]? = w.heap[bd.blk]? := fun bd hb hre => atk bd _ hb (Bind.has_blk hre)
  generalize μ.pos i = b at ho at_ atk
  cases hg : h.get i with
  | gone => rw [hg] at ho; exact ho
  | var cs t =>
    rw [hg] at ho
    obtain ⟨bd, C, rfl, hv, hc, hl, hr⟩ := ho
    exact ⟨bd, C, rfl, hv, by rw [at_ bd rfl (Bind.real0 hv)]; exact hc, hl, fun j c v h1 h2 => ⟨(hr j c v h1 h2).1.shut hs, (hr j c v h1 h2).2⟩⟩
  | dvar m f t =>
    rw [hg] at ho
    obtain ⟨bd, C, rfl, hv, hc, hl, hr⟩ := ho
    exact ⟨bd, C, rfl, hv, by rw [at_ bd rfl (Bind.real0 hv)]; exact hc, hl, fun j c v h1 h2 => ⟨(hr j c v h1 h2).1.shut hs, (hr j c v h1 h2).2⟩⟩
  | row e sz l ver =>
    rw [hg] at ho
    obtain ⟨bd, C, rfl, hv, h0, hc, hl, hlen, hr⟩ := ho
    exact ⟨bd, C, rfl, hv, h0, fun hre => by unfold RowAt; rw [at_ bd rfl hre]; exact hc hre, hl, hlen, hr.fits, hr.len, fun i x j u h1 h2 => by
      obtain ⟨q, v, hv, hd⟩ := hr.cell i x j u h1 h2
      exact ⟨q, v, hv, hd.shut hs⟩⟩
  | nest e e2 sz2 ll ver hole =>
    rw [hg] at ho
    obtain ⟨bd, C, S, rfl, hv, h0, hc, hl, hlen, hle, hs1, hs2, hs3, hr⟩ := ho
    refine ⟨bd, C, S, rfl, hv, h0, fun hre => by unfold RowAt; rw [at_ bd rfl hre]; exact hc hre, hl, hlen, hle, hs1, hs2, hs3, fun i l h1 => ?_⟩
    obtain ⟨v, g1, g2⟩ := hr i l h1
    have key : SubOk μ w e2 sz2 l v (S i) → SubOk μ w' e2 sz2 l v (S i) := by
      rintro ⟨base, c, k1, k2, k3, k4⟩
      refine ⟨base, c, k1, k2, k3, fun h0 => ?_⟩
      obtain ⟨k, Ci, q1, q2, q3, q4, q5⟩ := k4 h0
      exact ⟨k, Ci, q1, q2, q3.other (atk bd k rfl (.inr (hs1 i k q2))), q4, q5.fits, q5.len, fun i x j u h1 h2 => by
        obtain ⟨q, v, hv, hd⟩ := q5.cell i x j u h1 h2
        exact ⟨q, v, hv, hd.shut hs⟩⟩
    refine ⟨v, g1, ?_⟩
    unfold NestAt at g2 ⊢
    split at g2
    · split at g2
      · rename_i hij; rw [if_pos hij]; exact ⟨g2.1.shut hs, g2.2⟩
      · rename_i hij; rw [if_neg hij]; exact key g2
    · exact key g2
  | map sh es clock =>
    rw [hg] at ho
    obtain ⟨bd, E, rfl, hv, hc, hl, hsh, hr⟩ := ho
    exact ⟨bd, E, rfl, hv, by rw [at_ bd rfl (Bind.real0 hv)]; exact hc, hl, hsh, fun i q e h1 h2 => ⟨(hr i q e h1 h2).1, (hr i q e h1 h2).2.1.shut hs, (hr i q e h1 h2).2.2.shut hs⟩⟩
  | siter t pos =>
    rw [hg] at ho
    obtain ⟨bd, rfl, hv, hc⟩ := ho
    exact ⟨bd, rfl, hv, by rw [at_ bd rfl (Bind.real0 hv)]; exact hc⟩
  | miter m since seen stepped =>
    rw [hg] at ho
    obtain ⟨bd, rfl, hv, m', hc, hm⟩ := ho
    exact ⟨bd, rfl, hv, m', by rw [at_ bd rfl (Bind.real0 hv)]; exact hc, hm⟩
  | diter sh es clock since seen stepped =>
    rw [hg] at ho
    obtain ⟨bd, rfl, hv, k', hc, hd⟩ := ho
    exact ⟨bd, rfl, hv, k', by rw [at_ bd rfl (Bind.real0 hv)]; exact hc, hd.shut hs⟩
  | loop st pend fn N tm params assign body =>
    rw [hg] at ho
    obtain ⟨bd, rfl, hv, r, hc, h1, h2, h3, h4, h5, h6, h7, h8⟩ := ho
    exact ⟨bd, rfl, hv, r, by rw [at_ bd rfl (Bind.real0 hv)]; exact hc, h1, h2, h3, h4, fun d => (h5 d).shut hs, h6, h7, h8⟩

def St.put (s : St) (d : Nat) (v : AV) : St := { s with tm := (d, v) :: s.tm }

/-- One slot is written, the world having gone on. -/
theorem SRel.put {N : Nat} {s : St} {μ μ' : Mu} {a : Act} {w w' : World} {h' : Heap} (hs : SRel N s μ a w) (he : Ext s.hp.nx μ w μ' w') (hn : s.hp.nx ≤ h'.nx) (hh : HRel h' μ' w')
    (d : Nat) (hd : d < N) {v : AV} {u : Value} (hv : ARel h'.nx μ' w' v u) : SRel N { s with tm := (d, v) :: s.tm, hp := h' } μ' (a.put (some d) u) w' := by
  refine ⟨fun k => ?_, by simp [Act.put, hs.size], hh, hs.df.ext he⟩
  show ARel h'.nx μ' w' (look ((d, v) :: s.tm) k) _
  rw [look_cons]
  simp only [Act.put]
  by_cases e : k = d
  · subst e
    rw [if_pos rfl]
    have : (a.tmps.setIfInBounds k u).getD k undef = u := by
      rw [Array.getD_eq_getD_getElem?, Array.getElem?_setIfInBounds]
      simp [hs.size, hd]
    rw [this]; exact hv
  · rw [if_neg e]
    have : (a.tmps.setIfInBounds d u).getD k undef = a.tmps.getD k undef := by
      rw [Array.getD_eq_getD_getElem?, Array.getD_eq_getD_getElem?, Array.getElem?_setIfInBounds, if_neg (fun h => e h.symm)]
    rw [this]
    exact (hs.tm k).ext he hn

/-- No slot is written. -/
theorem SRel.go {N : Nat} {s : St} {μ μ' : Mu} {a : Act} {w w' : World} {h' : Heap} (hs : SRel N s μ a w) (he : Ext s.hp.nx μ w μ' w') (hn : s.hp.nx ≤ h'.nx) (hh : HRel h' μ' w') :
    SRel N { s with hp := h' } μ' a w' :=
  ⟨fun k => (hs.tm k).ext he hn, hs.size, hh, hs.df.ext he⟩

end Go.Pm
end
section
/- What one operation does to an abstract state, as a precondition that is computed; and that the model does the same. First part: operations that leave memory as it is. -/
namespace Go.Pm

/-! ### Types -/
/-- What a type is, without names: of a struct its fields' types and places. -/
inductive TD where
  | bool
  | int (k : IntKind)
  | str
  | float (k : FloatKind)
  | ptr (e : TypeId)
  | slice (e : TypeId)
  | array (n : Nat) (e : TypeId)
  | map (k e : TypeId)
  | struct (fs : List (TypeId × Nat))
  | func
  | iface (empty : Bool)
  | other

def tdOf : TypeDesc → TD
  | .bool => .bool
  | .int k => .int k
  | .string => .str
  | .float k => .float k
  | .pointer e => .ptr e
  | .slice e => .slice e
  | .array n e => .array n e
  | .map k e => .map k e
  | .struct fs => .struct (fs.toList.map fun f => (f.type, f.offset))
  | .func _ _ _ => .func
  | .interface ms => .iface ms.isEmpty
  | _ => .other

structure Ty where
  td : TD
  size : Nat
  bytes : Nat
  zero : D
  cmp : Bool
  plain : Bool

abbrev Tab := TypeId → Option Ty

def noBlank : TypeDesc → Bool
  | .struct fs => fs.toList.all fun f => f.name != "_"
  | _ => true

structure TabOk (P : Program) (T : Tab) : Prop where
  und : ∀ t y, T t = some y → ∃ d, P.underlying t = some d ∧ tdOf d = y.td ∧ (y.plain = true → noBlank d = true ∧ P.stoodInHeld t = false ∧ P.eqGuardType P.depth t = false)
  info : ∀ t y, T t = some y → ∃ i z, P.info? t = some i ∧ i.size = y.size ∧ i.bytes = y.bytes ∧ i.comparable = y.cmp ∧ i.zero = some z ∧ (∀ ok w, DRel ok w y.zero z) ∧ z.cells.size = y.size

def isAggT : TD → Bool
  | .struct _ | .array _ _ => true
  | _ => false

section
variable {P : Program} {T : Tab} (hT : TabOk P T) {t : TypeId} {y : Ty} (h : T t = some y) (w : World)
include hT h
theorem run_und : ∃ d, (underlying t).run P w = .ok d w ∧ tdOf d = y.td := by
  obtain ⟨d, h1, h2, _⟩ := hT.und t y h
  exact ⟨d, run_underlying h1 w, h2⟩
theorem run_size : (sizeOf t).run P w = .ok y.size w := by
  obtain ⟨i, z, h1, h2, _⟩ := hT.info t y h
  simp [sizeOf, typeInfo, h1, h2]
theorem run_isAgg : (isAgg t).run P w = .ok (isAggT y.td) w := by
  obtain ⟨d, h1, h2⟩ := run_und hT h w
  unfold isAgg
  rw [Sem.run_bind, h1, ← h2]
  cases d <;> rfl
theorem run_zero : ∃ z, (zeroValue t).run P w = .ok z w ∧ (∀ ok w, DRel ok w y.zero z) ∧ z.cells.size = y.size := by
  obtain ⟨i, z, h1, _, _, _, h4, h5, h6⟩ := hT.info t y h
  exact ⟨z, by simp [zeroValue, typeInfo, h1, h4], h5, h6⟩
end

/-! ### Ranges of whole numbers -/
def rng : IntKind → Int → Prop
  | .i64, n => -9223372036854775808 ≤ n ∧ n ≤ 9223372036854775807
  | .i32, n => -2147483648 ≤ n ∧ n ≤ 2147483647
  | .i16, n => -32768 ≤ n ∧ n ≤ 32767
  | .i8, n => -128 ≤ n ∧ n ≤ 127
  | .u64, n => 0 ≤ n ∧ n ≤ 18446744073709551615
  | .u32, n => 0 ≤ n ∧ n ≤ 4294967295
  | .u16, n => 0 ≤ n ∧ n ≤ 65535
  | .u8, n => 0 ≤ n ∧ n ≤ 255
theorem wrap_rng {k : IntKind} {n : Int} (h : rng k n) : k.wrap n = n := by
  cases k <;> simp only [rng] at h <;> simp only [IntKind.wrap, IntKind.bits, IntKind.signed] <;> simp <;> omega

/-! ### Operands -/
def ofValue : Value → AV
  | .bool true => .tt
  | .bool false => .ff
  | .int k n => .d (.int k n)
  | .string s => cond (Nat.ble s.data.toList.length maxLen) (.d (.str s.data.toList)) .junk
  | .pointer none => .d .nilp
  | .slice none 0 0 => .d .nils
  | .map none => .d .nilmap
  | .nilFunc => .d .nilfn
  | .nilIface => .d .nili
  | .float k b => .d (.float k b)
  | _ => .junk

theorem ofValue_rel (n : Nat) (μ : Mu) (w : World) (v : Value) : ARel n μ w (ofValue v) v := by
  unfold ofValue
  split
  · exact .tt
  · exact .ff
  · exact .d _ _ (.int _ _)
  · rename_i s
    cases hb : Nat.ble s.data.toList.length maxLen with
    | true => exact .d _ _ (DRel.str s.data.toList (Nat.le_of_ble_eq_true hb))
    | false => exact .junk _
  · exact .d _ _ .nilp
  · exact .d _ _ .nils
  · exact .d _ _ .nilmap
  · exact .d _ _ .nilfn
  · exact .d _ _ .nili
  · exact .d _ _ (.float _ _)
  · exact .junk _

def ev (s : St) : Operand → AV
  | .tmp t => look s.tm t
  | .const v => ofValue v
  | .func f => .d (.fn f)
  | .global _ => .junk

theorem ev_rel {N : Nat} {s : St} {μ : Mu} {a : Act} {w : World} (hs : SRel N s μ a w) (x : Operand) : ARel s.hp.nx μ w (ev s x) (a.eval x) := by
  cases x with
  | tmp t => exact hs.tm t
  | const v => exact ofValue_rel _ _ _ v
  | func f => exact .d _ _ (.fn f)
  | global g => exact .junk _

def asB : AV → Option Bool
  | .tt => some true
  | .ff => some false
  | .d (.bool b) => some b
  | _ => none
theorem asB_rel {n : Nat} {μ : Mu} {w : World} {x : AV} {v : Value} {b : Bool} (h : ARel n μ w x v) (hb : asB x = some b) : v = .bool b := by
  cases h with
  | tt => cases hb; rfl
  | ff => cases hb; rfl
  | d x v h => cases h <;> simp [asB] at hb; subst hb; rfl
  | _ => simp [asB] at hb

/-- As pure data, one cell. -/
def toD1 : AV → Option D
  | .d (.agg _) => none
  | .d x => some x
  | .tt => some (.bool true)
  | .ff => some (.bool false)
  | .iface t (.d x) => some (.iface t x)
  | .fn f [] => some (.fn f)
  | _ => none
def toD1s : List AV → Option (List D)
  | [] => some []
  | x :: r => match toD1 x, toD1s r with
    | some y, some q => some (y :: q)
    | _, _ => none
def toD : AV → Option D
  | .agg cs => match toD1s cs with
    | some l => some (.agg l)
    | none => none
  | .d x => some x
  | x => toD1 x

theorem toD1_rel {n : Nat} {μ : Mu} {w : World} {x : AV} {v : Value} {y : D} (h : ARel n μ w x v) (hy : toD1 x = some y) : DRel (okOf μ) w y v ∧ D.one y = true := by
  cases h with
  | tt => cases hy; exact ⟨.bool _, rfl⟩
  | ff => cases hy; exact ⟨.bool _, rfl⟩
  | d x v h => cases h <;> simp [toD1] at hy <;> subst hy <;> first | exact ⟨by constructor <;> assumption, rfl⟩ | exact ⟨by constructor, rfl⟩
  | iface t x v h =>
    cases x <;> simp [toD1] at hy
    subst hy
    cases h with
    | d x v h => exact ⟨.iface _ _ _ h, rfl⟩
  | fn f caps vs hl h =>
    cases caps with
    | nil =>
      simp [toD1] at hy; subst hy
      cases vs with
      | nil => exact ⟨.fn f, rfl⟩
      | cons _ _ => simp at hl
    | cons c r => simp [toD1] at hy
  | _ => simp [toD1] at hy

theorem toD1s_len : ∀ {cs : List AV} {l : List D}, toD1s cs = some l → l.length = cs.length
  | [], l, h => by simp [toD1s] at h; subst h; rfl
  | x :: r, l, h => by
    simp only [toD1s] at h
    split at h
    · rename_i y q h1 h2
      cases h
      simp [toD1s_len h2]
    · cases h
theorem toD1s_get : ∀ {cs : List AV} {l : List D}, toD1s cs = some l → ∀ (i : Nat) (y : D), l[i]? = some y → ∃ x, cs[i]? = some x ∧ toD1 x = some y
  | [], l, h, i, y, hi => by simp [toD1s] at h; subst h; simp at hi
  | x :: r, l, h, i, y, hi => by
    simp only [toD1s] at h
    split at h
    · rename_i y' q h1 h2
      cases h
      cases i with
      | zero => simp at hi; subst hi; exact ⟨x, rfl, h1⟩
      | succ i => simp at hi; simpa using toD1s_get h2 i y hi
    · cases h

theorem toD_rel {n : Nat} {μ : Mu} {w : World} {x : AV} {v : Value} {y : D} (h : ARel n μ w x v) (hy : toD x = some y) : DRel (okOf μ) w y v := by
  cases h with
  | d x v h => simp [toD] at hy; subst hy; exact h
  | agg cs vs hl ho h =>
    simp only [toD] at hy
    split at hy
    · rename_i l hl'
      cases hy
      have hlen := toD1s_len hl'
      refine .agg l vs (by omega) (fun i c hc => ?_) (fun i c v hc hv => ?_)
      · obtain ⟨x, hx, hd⟩ := toD1s_get hl' i c hc
        have hi : i < vs.length := by have := (List.getElem?_eq_some_iff.1 hx).1; omega
        exact (toD1_rel (h i x vs[i] hx (List.getElem?_eq_getElem hi)) hd).2
      · obtain ⟨x, hx, hd⟩ := toD1s_get hl' i c hc
        exact (toD1_rel (h i x v hx hv) hd).1
    · cases hy
  | tt => exact (toD1_rel (n := n) .tt hy).1
  | ff => exact (toD1_rel (n := n) .ff hy).1
  | iface t x v h => exact (toD1_rel (.iface t x v h) hy).1
  | fn f caps vs hl h => exact (toD1_rel (.fn f caps vs hl h) hy).1
  | _ => simp [toD, toD1] at hy

/-- A value's cells. -/
def AV.cells : AV → List AV
  | .agg cs => cs
  | .d (.agg ds) => ds.map .d
  | x => [x]
def AV.solid : AV → Bool
  | .junk | .tup _ | .cnd _ _ _ => false
  | _ => true

theorem cells_rel {n : Nat} {μ : Mu} {w : World} {x : AV} {v : Value} (h : ARel n μ w x v) (hx : AV.solid x = true) :
    v.cells.size = (AV.cells x).length ∧ ∀ (j : Nat) (c : AV) (u : Value), (AV.cells x)[j]? = some c → v.cells[j]? = some u → ARel n μ w c u ∧ u.oneCell' = true := by
  have one : ∀ {x : AV} {v : Value}, ARel n μ w x v → AV.cells x = [x] → v.cells = #[v] → v.oneCell' = true → v.cells.size = (AV.cells x).length ∧ ∀ (j : Nat) (c : AV) (u : Value), (AV.cells x)[j]? = some c → v.cells[j]? = some u → ARel n μ w c u ∧ u.oneCell' = true := by
    intro x v h h1 h2 h3
    rw [h1, h2]
    refine ⟨rfl, fun j c u hc hu => ?_⟩
    cases j with
    | zero => simp at hc hu; subst hc hu; exact ⟨h, h3⟩
    | succ j => simp at hc
  cases h with
  | d x v h =>
    cases hd : h with
    | agg cs vs hl ho h1 =>
      refine ⟨by simp [AV.cells, Value.cells, hl], fun j c u hc hu => ?_⟩
      simp only [AV.cells, List.getElem?_map, Option.map_eq_some_iff] at hc
      obtain ⟨c', hc', rfl⟩ := hc
      have hu' : vs[j]? = some u := by simpa [Value.cells] using hu
      exact ⟨.d _ _ (h1 j c' u hc' hu'), (h1 j c' u hc' hu').oneCell (ho j c' hc')⟩
    | _ => exact one (.d _ _ h) rfl (cells_one (h.oneCell rfl)) (h.oneCell rfl)
  | agg cs vs hl ho h1 =>
    refine ⟨by simp [AV.cells, Value.cells, hl], fun j c u hc hu => ?_⟩
    have hu' : vs[j]? = some u := by simpa [Value.cells] using hu
    exact ⟨h1 j c u hc hu', ho j u hu'⟩
  | tup cs vs hl h1 => simp [AV.solid] at hx
  | junk v => simp [AV.solid] at hx
  | cnd c x y v h1 h2 => simp [AV.solid] at hx
  | tt => exact one .tt rfl rfl rfl
  | ff => exact one .ff rfl rfl rfl
  | ptr b off a hb h1 => exact one (.ptr b off a hb h1) rfl rfl rfl
  | rptr b ver sz i off a hb hv h0 h1 => exact one (.rptr b ver sz i off a hb hv h0 h1) rfl rfl rfl
  | own b ver sz m a c hb hn hc hv h0 h1 => exact one (.own b ver sz m a c hb hn hc hv h0 h1) rfl rfl rfl
  | cut b ver sz off m a c hb hn hc hv h0 h1 => exact one (.cut b ver sz off m a c hb hn hc hv h0 h1) rfl rfl rfl
  | rd cs a vs hok hone hcell h1 => exact one (.rd cs a vs hok hone hcell h1) rfl rfl rfl
  | fn f caps vs hl h1 => exact one (.fn f caps vs hl h1) rfl rfl rfl
  | yld l k hb h1 => exact one (.yld l k hb h1) rfl rfl rfl
  | map b k hb h1 => exact one (.map b k hb h1) rfl rfl rfl
  | iface t x v h1 => exact one (.iface t x v h1) rfl rfl rfl

end Go.Pm
end
section
/- Operations on values: arithmetic, comparisons, conversions, fields, indices of strings. -/
namespace Go.Pm

/-! ### Arithmetic on whole numbers: the exact number where it fits, or the wrapped one -/
def exactOr (k : IntKind) (n : Int) (K : AV → Prop) : Prop := (rng k n ∧ K (.d (.int k n))) ∨ K (.d (.int k (k.wrap n)))
theorem exactOr_sound {k : IntKind} {n : Int} {K : AV → Prop} (h : exactOr k n K) : K (.d (.int k (k.wrap n))) := by
  rcases h with ⟨h1, h2⟩ | h
  · rw [wrap_rng h1]; exact h2
  · exact h

def abinInt (op : BinOp) (k : IntKind) (a b : Int) (K : AV → Prop) : Prop :=
  match op with
  | .add => exactOr k (a + b) K
  | .sub => exactOr k (a - b) K
  | .mul => exactOr k (a * b) K
  | .quo => b ≠ 0 ∧ exactOr k (a.tdiv b) K
  | .rem => b ≠ 0 ∧ K (.d (.int k (a.tmod b)))
  | .and => K (.d (.int k (bits .and k a b)))
  | .or => K (.d (.int k (bits .or k a b)))
  | .xor => K (.d (.int k (bits .xor k a b)))
  | .andNot => K (.d (.int k (bits .andNot k a b)))
  | .eql => K (.d (.bool (a == b)))
  | .neq => K (.d (.bool (a != b)))
  | .lss => K (.d (.bool (decide (a < b))))
  | .leq => K (.d (.bool (decide (a ≤ b))))
  | .gtr => K (.d (.bool (decide (a > b))))
  | .geq => K (.d (.bool (decide (a ≥ b))))
  | _ => False

def abinStr (op : BinOp) (a b : List UInt8) (K : AV → Prop) : Prop :=
  match op with
  | .add => a.length + b.length ≤ 9223372036854775807 ∧ K (.d (.str (a ++ b)))
  | .eql => K (.d (.bool (a == b)))
  | .neq => K (.d (.bool !(a == b)))
  | .lss => K (.d (.bool (Op.bytesLess a b)))
  | .leq => K (.d (.bool (Op.bytesLess a b || a == b)))
  | .gtr => K (.d (.bool !(Op.bytesLess a b || a == b)))
  | .geq => K (.d (.bool !(Op.bytesLess a b)))
  | _ => False

def abinBool (op : BinOp) (a b : Bool) (K : AV → Prop) : Prop :=
  match op with
  | .eql => K (.d (.bool (a == b)))
  | .neq => K (.d (.bool !(a == b)))
  | _ => False

def ashift (op : BinOp) (k : IntKind) (a b : Int) (K : AV → Prop) : Prop :=
  match op with
  | .shl => 0 ≤ b ∧ exactOr k (a * 2 ^ (min b.toNat k.bits)) K
  | .shr => 0 ≤ b ∧ K (.d (.int k (a.fdiv (2 ^ (min b.toNat k.bits)))))
  | _ => False

/-- Is a value of a type nil? (where that can be told) -/
def nilK : TD → AV → Option Bool
  | .ptr _, .d .nilp => some true
  | .ptr _, .ptr _ _ => some false
  | .ptr _, .rptr _ _ _ _ _ => some false
  | .ptr _, .rd _ => some false
  | .slice _, .d .nils => some true
  | .slice _, .d (.list _ (_ :: _)) => some false
  | .slice _, .cut _ _ _ _ _ => some false
  | .map _ _, .d .nilmap => some true
  | .map _ _, .map _ => some false
  | .func, .d .nilfn => some true
  | .func, .d (.fn _) => some false
  | .func, .fn _ _ => some false
  | .func, .yld _ => some false
  | .iface _, .d .nili => some true
  | .iface _, .d (.iface _ _) => some false
  | .iface _, .iface _ _ => some false
  | _, _ => none

/-- x == y, one of them nil. -/
def nilish (td : TD) (x y : AV) : Option Bool :=
  match nilK td x, nilK td y with
  | some true, some b => some b
  | some false, some true => some false
  | _, _ => none

def isNilOf : TD → Value → Prop
  | .ptr _, v => v = .pointer none
  | .slice _, v => v = .slice none 0 0
  | .map _ _, v => v = .map none
  | .func, v => v = .nilFunc
  | .iface _, v => v = .nilIface
  | _, _ => False
def isNonOf : TD → Value → Prop
  | .ptr _, v => ∃ a, v = .pointer (some a)
  | .slice _, v => ∃ a l c, v = .slice (some a) l c
  | .map _ _, v => ∃ m, v = .map (some m)
  | .func, v => ∃ f a c, v = .func f a c
  | .iface _, v => ∃ t u, v = .iface t u
  | _, _ => False

theorem nilK_sound {n : Nat} {μ : Mu} {w : World} {x : AV} {v : Value} (h : ARel n μ w x v) {td : TD} {b : Bool} (hq : nilK td x = some b) : (b = true → isNilOf td v) ∧ (b = false → isNonOf td v) := by
  unfold nilK at hq
  split at hq <;> cases hq <;> (try (cases h; rename_i h; cases h)) <;> (try cases h) <;> simp [isNilOf, isNonOf]

/-- A comparison with nil. -/
def abinNil (op : BinOp) (xn : Bool) (K : AV → Prop) : Prop :=
  match op with
  | .eql => K (.d (.bool xn))
  | .neq => K (.d (.bool !xn))
  | _ => False

/-- A part of an aggregate. -/
def partD (T : Tab) (t : TypeId) (cs : List D) (off : Nat) : Option D :=
  match T t with
  | some y => cond (isAggT y.td) (cond (Nat.ble (off + y.size) cs.length) (some (.agg ((cs.drop off).take y.size))) none) (cs[off]?)
  | none => none

def eqFlds (T : Tab) (eq : TypeId → D → D → Option Bool) (xs ys : List D) : List (TypeId × Nat) → Option Bool
  | [] => some true
  | (t, off) :: r =>
    match partD T t xs off, partD T t ys off with
    | some a, some b => match eq t a b, eqFlds T eq xs ys r with
      | some p, some q => some (p && q)
      | _, _ => none
    | _, _ => none

/-- Are two data of a type equal? (whole numbers, strings, bools, and structs of these) -/
def eqD (T : Tab) : Nat → TypeId → D → D → Option Bool
  | 0, _, _, _ => none
  | d + 1, t, x, y =>
    match T t with
    | none => none
    | some ty =>
      match ty.td, x, y with
      | .int _, .int k a, .int k' b => cond (kEq k k') (some (a == b)) none
      | .str, .str a, .str b => some (a == b)
      | .bool, .bool a, .bool b => some (a == b)
      | .struct fs, .agg xs, .agg ys => cond ty.plain (eqFlds T (eqD T d) xs ys fs) none
      | _, _, _ => none

/-- A binary operation. -/
def abin (T : Tab) (op : BinOp) (t : TypeId) (cst : Bool) (x y : AV) (K : AV → Prop) : Prop :=
  match x, y with
  | .d (.int k a), .d (.int k' b) =>
    match op with
    | .shl => ashift .shl k a b K
    | .shr => ashift .shr k a b K
    | _ => cond (kEq k k') (abinInt op k a b K) False
  | .d (.str a), .d (.str b) => abinStr op a b K
  | x, y =>
    match T t with
    | none => False
    | some ty =>
      match nilish ty.td x y with
      | some b => match ty.td with
        | .iface _ => cond cst (abinNil op b K) False
        | _ => abinNil op b K
      | none =>
        match ty.td with
        | .bool => match asB x, asB y with
          | some a, some b => abinBool op a b K
          | _, _ => False
        | .slice _ => match x, y with
          | .d (.list _ l), .d .nils => l ≠ [] ∧ abinNil op false K
          | _, _ => False
        | .struct _ => match toD x, toD y with
          | some a, some b => cond ty.plain (match eqD T 8 t a b with
            | some c => abinNil op c K
            | none => False) False
          | _, _ => False
        | _ => False

/-! ### The model does the same -/
theorem abinNil_sound {op : BinOp} {b : Bool} {K : AV → Prop} (h : abinNil op b K) : (op = .eql ∧ K (.d (.bool b))) ∨ (op = .neq ∧ K (.d (.bool !b))) := by
  cases op <;> simp only [abinNil] at h <;> first | exact .inl ⟨rfl, h⟩ | exact .inr ⟨rfl, h⟩ | cases h

section
variable {P : Program} {T : Tab} {n : Nat} {μ : Mu} {w : World}

theorem abinInt_sound {op : BinOp} {k : IntKind} {a b : Int} {K : AV → Prop} (h : abinInt op k a b K) (t : TypeId) :
    ∃ r z, K z ∧ (binOp op t (.int k a) (.int k b)).run P w = .ok r w ∧ ARel n μ w z r := by
  cases op <;> simp only [abinInt] at h
  case add => exact ⟨_, _, exactOr_sound h, by simp [binOp, Op.intArith], .d _ _ (.int _ _)⟩
  case sub => exact ⟨_, _, exactOr_sound h, by simp [binOp, Op.intArith], .d _ _ (.int _ _)⟩
  case mul => exact ⟨_, _, exactOr_sound h, by simp [binOp, Op.intArith], .d _ _ (.int _ _)⟩
  case quo => exact ⟨_, _, exactOr_sound h.2, by simp [binOp, Op.intDiv, h.1], .d _ _ (.int _ _)⟩
  case rem => exact ⟨_, _, h.2, by simp [binOp, Op.intDiv, h.1], .d _ _ (.int _ _)⟩
  case and => exact ⟨_, _, h, by simp [binOp, intBits_and], .d _ _ (.int _ _)⟩
  case or => exact ⟨_, _, h, by simp [binOp, intBits_or], .d _ _ (.int _ _)⟩
  case xor => exact ⟨_, _, h, by simp [binOp, intBits_xor], .d _ _ (.int _ _)⟩
  case andNot => exact ⟨_, _, h, by simp [binOp, intBits_andNot], .d _ _ (.int _ _)⟩
  case eql => exact ⟨_, _, h, by simp [binOp, Op.intCmp], .d _ _ (.bool _)⟩
  case neq => exact ⟨_, _, h, by simp [binOp, Op.intCmp], .d _ _ (.bool _)⟩
  case lss => exact ⟨_, _, h, by simp [binOp, Op.intCmp], .d _ _ (.bool _)⟩
  case leq => exact ⟨_, _, h, by simp [binOp, Op.intCmp], .d _ _ (.bool _)⟩
  case gtr => exact ⟨_, _, h, by simp [binOp, Op.intCmp], .d _ _ (.bool _)⟩
  case geq => exact ⟨_, _, h, by simp [binOp, Op.intCmp], .d _ _ (.bool _)⟩

theorem ashift_sound {op : BinOp} {k k' : IntKind} {a b : Int} {K : AV → Prop} (h : ashift op k a b K) (t : TypeId) :
    ∃ r z, K z ∧ (binOp op t (.int k a) (.int k' b)).run P w = .ok r w ∧ ARel n μ w z r := by
  cases op <;> simp only [ashift] at h
  case shl => exact ⟨_, _, exactOr_sound h.2, by simp [binOp, Op.shift, Int.not_lt.2 h.1], .d _ _ (.int _ _)⟩
  case shr => exact ⟨_, _, h.2, by simp [binOp, Op.shift, Int.not_lt.2 h.1], .d _ _ (.int _ _)⟩

theorem abinStr_sound {op : BinOp} {a b : List UInt8} {K : AV → Prop} (h : abinStr op a b K) (t : TypeId) :
    ∃ r z, K z ∧ (binOp op t (.string ⟨a.toArray⟩) (.string ⟨b.toArray⟩)).run P w = .ok r w ∧ ARel n μ w z r := by
  cases op <;> simp only [abinStr] at h
  case add =>
    refine ⟨_, _, h.2, ?_, .d _ _ (.str _ (by rw [List.length_append]; exact h.1))⟩
    have hs : ¬ (((⟨a.toArray⟩ : ByteArray).size + (⟨b.toArray⟩ : ByteArray).size : Nat) : Int) > IntKind.i64.max := by
      have h1 := h.1
      have e1 : (⟨a.toArray⟩ : ByteArray).size = a.length := by simp [ByteArray.size]
      have e2 : (⟨b.toArray⟩ : ByteArray).size = b.length := by simp [ByteArray.size]
      rw [e1, e2, IntKind.max_i64]; omega
    have hc : (⟨a.toArray⟩ : ByteArray) ++ (⟨b.toArray⟩ : ByteArray) = ⟨(a ++ b).toArray⟩ := by
      apply ByteArray.ext
      simp [ByteArray.data_append]
    simp only [binOp, Op.stringOp]
    rw [if_neg hs, hc]; rfl
  case eql => exact ⟨_, _, h, by simp only [binOp, Op.stringOp, ByteArray.toList_mk]; rfl, .d _ _ (.bool _)⟩
  case neq => exact ⟨_, _, h, by simp only [binOp, Op.stringOp, ByteArray.toList_mk]; rfl, .d _ _ (.bool _)⟩
  case lss => exact ⟨_, _, h, by simp only [binOp, Op.stringOp, ByteArray.toList_mk]; rfl, .d _ _ (.bool _)⟩
  case leq => exact ⟨_, _, h, by simp only [binOp, Op.stringOp, ByteArray.toList_mk]; rfl, .d _ _ (.bool _)⟩
  case gtr => exact ⟨_, _, h, by simp only [binOp, Op.stringOp, ByteArray.toList_mk]; rfl, .d _ _ (.bool _)⟩
  case geq => exact ⟨_, _, h, by simp only [binOp, Op.stringOp, ByteArray.toList_mk]; rfl, .d _ _ (.bool _)⟩
end
end Go.Pm
end
section
/- Equality, and the whole of the binary operations. -/
namespace Go.Pm

theorem tdOf_struct {d : TypeDesc} {fs : List (TypeId × Nat)} (h : tdOf d = .struct fs) : ∃ f, d = .struct f ∧ f.toList.map (fun f => (f.type, f.offset)) = fs := by
  cases d <;> simp [tdOf] at h
  exact ⟨_, rfl, h⟩
theorem tdOf_int {d : TypeDesc} {k : IntKind} (h : tdOf d = .int k) : d = .int k := by cases d <;> simp [tdOf] at h; rw [h]
theorem tdOf_str {d : TypeDesc} (h : tdOf d = .str) : d = .string := by cases d <;> simp [tdOf] at h; rfl
theorem tdOf_bool {d : TypeDesc} (h : tdOf d = .bool) : d = .bool := by cases d <;> simp [tdOf] at h; rfl
theorem tdOf_float {d : TypeDesc} {k : FloatKind} (h : tdOf d = .float k) : d = .float k := by cases d <;> simp [tdOf] at h; rw [h]
theorem tdOf_ptr {d : TypeDesc} {e : TypeId} (h : tdOf d = .ptr e) : d = .pointer e := by cases d <;> simp [tdOf] at h; rw [h]
theorem tdOf_slice {d : TypeDesc} {e : TypeId} (h : tdOf d = .slice e) : d = .slice e := by cases d <;> simp [tdOf] at h; rw [h]
theorem tdOf_array {d : TypeDesc} {n : Nat} {e : TypeId} (h : tdOf d = .array n e) : d = .array n e := by cases d <;> simp [tdOf] at h; rw [h.1, h.2]
theorem tdOf_map {d : TypeDesc} {k e : TypeId} (h : tdOf d = .map k e) : d = .map k e := by cases d <;> simp [tdOf] at h; rw [h.1, h.2]
theorem tdOf_func {d : TypeDesc} (h : tdOf d = .func) : ∃ a b c, d = .func a b c := by cases d <;> simp [tdOf] at h; exact ⟨_, _, _, rfl⟩
theorem tdOf_iface {d : TypeDesc} {b : Bool} (h : tdOf d = .iface b) : ∃ ms, d = .interface ms := by cases d <;> simp [tdOf] at h; exact ⟨_, rfl⟩

section
variable {P : Program} {T : Tab} (hT : TabOk P T) {ok : Nat → Prop} {w : World}
include hT

theorem partD_sound {t : TypeId} {cs : List D} {off : Nat} {x : D} (h : partD T t cs off = some x) {vs : List Value} (hl : vs.length = cs.length) (ho : ∀ (i : Nat) (c : D), cs[i]? = some c → D.one c = true)
    (hr : ∀ (i : Nat) (c : D) (v : Value), cs[i]? = some c → vs[i]? = some v → DRel ok w c v) : ∃ v, (part t vs.toArray off).run P w = .ok v w ∧ DRel ok w x v := by
  unfold partD at h
  split at h
  · rename_i y hy
    unfold part
    rw [Sem.run_bind, run_isAgg hT hy w]
    cases ha : isAggT y.td with
    | true =>
      rw [ha] at h
      simp only [Result.andThen_ok, if_true]
      cases hb : Nat.ble (off + y.size) cs.length with
      | false => rw [hb] at h; cases h
      | true =>
        rw [hb] at h
        simp only [cond_true] at h
        cases h
        have hle := Nat.le_of_ble_eq_true hb
        rw [Sem.run_bind, run_size hT hy w]
        refine ⟨_, rfl, ?_⟩
        have he : vs.toArray.extract off (off + y.size) = ((vs.drop off).take y.size).toArray := by
          simp [List.extract_toArray]
        rw [he]
        refine .agg _ _ (by simp only [List.length_take, List.length_drop]; omega) (fun i c hc => ?_) (fun i c v hc hv => ?_)
        · rw [List.getElem?_take] at hc
          split at hc
          · rw [List.getElem?_drop] at hc; exact ho _ c hc
          · cases hc
        · rw [List.getElem?_take] at hc hv
          split at hc
          · rename_i hi
            rw [if_pos hi, List.getElem?_drop] at hv
            rw [List.getElem?_drop] at hc
            exact hr _ c v hc hv
          · cases hc
    | false =>
      rw [ha] at h
      simp only [Result.andThen_ok, Bool.false_eq_true, if_false]
      simp only [cond_false] at h
      have hi : off < vs.length := by have := (List.getElem?_eq_some_iff.1 h).1; omega
      have hv : vs.toArray[off]? = some vs[off] := by simp [hi]
      rw [hv]
      exact ⟨_, rfl, hr off x _ h (List.getElem?_eq_getElem hi)⟩
  · cases h

theorem eqD_sound : ∀ (d : Nat) (t : TypeId) (x y : D) (b : Bool), eqD T d t x y = some b → ∀ (u v : Value), DRel ok w x u → DRel ok w y v → ∀ m, d ≤ m → (Op.equalIn m t u v).run P w = .ok b w := by
  intro d
  induction d with
  | zero => intro t x y b h; simp [eqD] at h
  | succ d ih =>
    intro t x y b h u v hu hv m hm
    obtain ⟨m, rfl⟩ : ∃ q, m = q + 1 := ⟨m - 1, by omega⟩
    unfold eqD at h
    split at h
    · cases h
    · rename_i ty hty
      obtain ⟨D0, hD, htd, hpl⟩ := hT.und t ty hty
      split at h
      · rename_i k k1 a k2 a2 hk
        cases hu; cases hv
        cases hb : kEq k1 k2 with
        | false => rw [hb] at h; cases h
        | true =>
          rw [hb] at h
          have := kEq_eq hb; subst this
          cases h
          exact run_equalIn_int w m t _ _ _ _ (by rw [hD, tdOf_int (htd.trans hk)])
      · rename_i a a2 hk
        cases hu; cases hv; cases h
        rw [run_equalIn_string w m t _ _ (by rw [hD, tdOf_str (htd.trans hk)])]
        simp only [ByteArray.toList_mk]
      · rename_i a a2 hk
        cases hu; cases hv; cases h
        exact run_equalIn_bool' w m t _ _ (by rw [hD, tdOf_bool (htd.trans hk)])
      · rename_i fs xs ys hk
        cases hb : ty.plain with
        | false => rw [hb] at h; cases h
        | true =>
          rw [hb] at h
          simp only [cond_true] at h
          obtain ⟨hnb, hst, _⟩ := hpl hb
          obtain ⟨F, rfl, hF⟩ := tdOf_struct (htd.trans hk)
          have hfo : P.fieldsOf t = F := by simp [Program.fieldsOf, hD]
          cases hu with
          | agg _ us hul huo hur =>
          cases hv with
          | agg _ vs hvl hvo hvr =>
          rw [run_equalIn_struct w m t _ _ (by rw [hfo]; exact hD) hst, hfo]
          have hnb' : ∀ f ∈ F.toList, f.name ≠ "_" := fun f hf => by simpa using List.all_eq_true.1 hnb f hf
          subst hF
          clear hfo hk htd hD hst hpl hb hty hnb
          generalize F.toList = l at h hnb'
          induction l generalizing b with
          | nil => simp only [List.map_nil, eqFlds] at h; cases h; rfl
          | cons f l ihl =>
            simp only [List.map_cons, eqFlds] at h
            split at h
            · rename_i p q hp hq
              split at h
              · rename_i b1 b2 h1 h2
                cases h
                obtain ⟨pv, hpv, hpr⟩ := partD_sound hT hp hul huo hur
                obtain ⟨qv, hqv, hqr⟩ := partD_sound hT hq hvl hvo hvr
                have hne : f.name ≠ "_" := hnb' f (by simp)
                simp only [Op.eqFields, if_pos hne, Sem.run_bind, hpv, hqv, Result.andThen_ok, ih f.type p q b1 h1 pv qv hpr hqr m (by omega)]
                cases b1 with
                | false => simp
                | true =>
                  simp only [Bool.not_true, Bool.false_eq_true, if_false, Bool.true_and]
                  exact ihl b2 h2 (fun g hg => hnb' g (by simp [hg]))
              · cases h
            · cases h
      · cases h

end

section
variable {P : Program} {T : Tab} (hT : TabOk P T) {n : Nat} {μ : Mu} {w : World}
include hT

omit hT in
/-- x == y by the types' own equality. -/
theorem run_eq_by {op : BinOp} (hop : op = .eql ∨ op = .neq) {t : TypeId} {ox oy : Operand} {u v : Value} {b : Bool}
    (h1 : ∀ op, (eqGuard op t ox oy u v).run P w = .ok () w) (h2 : binOp .eql t u v = (do pure (.bool (← Op.equal t u v))) ∧ binOp .neq t u v = (do pure (.bool (!(← Op.equal t u v)))))
    (h3 : ∀ d, (Op.equalIn (d + 1) t u v).run P w = .ok b w) : (do eqGuard op t ox oy u v; binOp op t u v : Sem Value).run P w = .ok (.bool (if op = .eql then b else !b)) w := by
  have h4 : (Op.equal t u v).run P w = .ok b w := h3 9999
  rcases hop with rfl | rfl
  · rw [Sem.run_bind, h1, h2.1]; simp only [Result.andThen_ok, Sem.run_bind, h4, Sem.run_pure, if_true]
  · rw [Sem.run_bind, h1, h2.2]; simp only [Result.andThen_ok, Sem.run_bind, h4, Sem.run_pure]; rfl

omit hT in
theorem nilish_sound {op : BinOp} {t : TypeId} {D0 : TypeDesc} {ty : Ty} (hD : P.underlying t = some D0) (htd : tdOf D0 = ty.td) {x y : AV} {u v : Value} {b : Bool} (hn : nilish ty.td x y = some b) (hx : ARel n μ w x u) (hy : ARel n μ w y v) (cst : Bool)
    {K : AV → Prop} (h : (match ty.td with
        | .iface _ => cond cst (abinNil op b K) False
        | _ => abinNil op b K)) (ox oy : Operand) (hc : cst = true → (∃ c, ox = .const c) ∨ ∃ c, oy = .const c) :
    ∃ r z, K z ∧ (do eqGuard op t ox oy u v; binOp op t u v : Sem Value).run P w = .ok r w ∧ ARel n μ w z r := by
  have key : (isNilOf ty.td u ∧ ((b = true ∧ isNilOf ty.td v) ∨ (b = false ∧ isNonOf ty.td v))) ∨ (b = false ∧ isNonOf ty.td u ∧ isNilOf ty.td v) := by
    unfold nilish at hn
    split at hn
    · rename_i b' h1 h2
      cases hn
      have a1 := nilK_sound hx h1
      have a2 := nilK_sound hy h2
      cases b
      · exact .inl ⟨a1.1 rfl, .inr ⟨rfl, a2.2 rfl⟩⟩
      · exact .inl ⟨a1.1 rfl, .inl ⟨rfl, a2.1 rfl⟩⟩
    · rename_i h1 h2
      cases hn
      exact .inr ⟨rfl, (nilK_sound hx h1).2 rfl, (nilK_sound hy h2).1 rfl⟩
    · cases hn
  clear hn
  have hrun : ∀ (hop : op = .eql ∨ op = .neq), (ty.td = .iface true ∨ ty.td = .iface false → cst = true) → (do eqGuard op t ox oy u v; binOp op t u v : Sem Value).run P w = .ok (.bool (if op = .eql then b else !b)) w := by
    intro hop hif
    cases htd' : ty.td with
    | ptr e =>
      rw [htd'] at key htd
      have hD' := hD; rw [tdOf_ptr htd] at hD'
      simp only [isNilOf, isNonOf] at key
      rcases key with ⟨rfl, ⟨rfl, rfl⟩ | ⟨rfl, a, rfl⟩⟩ | ⟨rfl, ⟨a, rfl⟩, rfl⟩ <;> exact run_eq_by hop (fun op => by rw [eqGuard_at_pointer]; rfl) ⟨rfl, rfl⟩ (fun d => by simp [Op.equalIn, run_underlying hD'])
    | slice e =>
      rw [htd'] at key htd
      have hD' := hD; rw [tdOf_slice htd] at hD'
      simp only [isNilOf, isNonOf] at key
      rcases key with ⟨rfl, ⟨rfl, rfl⟩ | ⟨rfl, a, l, c, rfl⟩⟩ | ⟨rfl, ⟨a, l, c, rfl⟩, rfl⟩ <;> exact run_eq_by hop (fun op => by rw [eqGuard_at_slice]; rfl) ⟨rfl, rfl⟩ (fun d => by simp [Op.equalIn, run_underlying hD'])
    | map k e =>
      rw [htd'] at key htd
      have hD' := hD; rw [tdOf_map htd] at hD'
      simp only [isNilOf, isNonOf] at key
      rcases key with ⟨rfl, ⟨rfl, rfl⟩ | ⟨rfl, a, rfl⟩⟩ | ⟨rfl, ⟨a, rfl⟩, rfl⟩ <;> exact run_eq_by hop (fun op => by rw [eqGuard_at_map]; rfl) ⟨rfl, rfl⟩ (fun d => by simp [Op.equalIn, run_underlying hD'])
    | func =>
      rw [htd'] at key htd
      obtain ⟨a0, b0, c0, rfl⟩ := tdOf_func htd
      simp only [isNilOf, isNonOf] at key
      rcases key with ⟨rfl, ⟨rfl, rfl⟩ | ⟨rfl, f, a, c, rfl⟩⟩ | ⟨rfl, ⟨f, a, c, rfl⟩, rfl⟩
      · exact run_eq_by hop (fun op => by rw [eqGuard_at_nilFunc]; rfl) ⟨rfl, rfl⟩ (fun d => by simp [Op.equalIn, run_underlying hD])
      · exact run_eq_by hop (fun op => by rw [eqGuard_at_nilFunc]; rfl) ⟨rfl, rfl⟩ (fun d => by simp [Op.equalIn, run_underlying hD])
      · exact run_eq_by hop (fun op => by rw [eqGuard_at_func]; rfl) ⟨rfl, rfl⟩ (fun d => by simp [Op.equalIn, run_underlying hD])
    | iface em =>
      have hcst : cst = true := by
        apply hif; rw [htd']; cases em
        · exact .inr rfl
        · exact .inl rfl
      rw [htd'] at key htd
      obtain ⟨ms, rfl⟩ := tdOf_iface htd
      simp only [isNilOf, isNonOf] at key
      rcases key with ⟨rfl, ⟨rfl, rfl⟩ | ⟨rfl, t', u', rfl⟩⟩ | ⟨rfl, ⟨t', u', rfl⟩, rfl⟩
      · refine run_eq_by hop (fun op => ?_) ⟨rfl, rfl⟩ (fun d => by simp [Op.equalIn, run_underlying hD])
        rcases hc hcst with ⟨c, rfl⟩ | ⟨c, rfl⟩
        · rw [eqGuard_nil_constL]; rfl
        · rw [eqGuard_nil_constR]; rfl
      · exact run_eq_by hop (fun op => by rw [eqGuard_nil_iface]; rfl) ⟨rfl, rfl⟩ (fun d => by simp [Op.equalIn, run_underlying hD])
      · exact run_eq_by hop (fun op => by rw [eqGuard_at_iface]; rfl) ⟨rfl, rfl⟩ (fun d => by simp [Op.equalIn, run_underlying hD])
    | _ => rw [htd'] at key; simp [isNilOf, isNonOf] at key
  have hK : abinNil op b K ∧ (ty.td = .iface true ∨ ty.td = .iface false → cst = true) := by
    split at h
    · cases cst with
      | true => exact ⟨h, fun _ => rfl⟩
      | false => cases h
    · rename_i hne
      exact ⟨h, fun hh => by rcases hh with hh | hh <;> exact absurd hh (hne _)⟩
  rcases abinNil_sound hK.1 with ⟨rfl, hk⟩ | ⟨rfl, hk⟩
  · exact ⟨_, _, hk, by rw [hrun (.inl rfl) hK.2, if_pos rfl], .d _ _ (.bool _)⟩
  · exact ⟨_, _, hk, by rw [hrun (.inr rfl) hK.2, if_neg (by simp)], .d _ _ (.bool _)⟩

theorem abin_sound {op : BinOp} {t : TypeId} {cst : Bool} {x y : AV} {K : AV → Prop} (h : abin T op t cst x y K) {u v : Value} (hx : ARel n μ w x u) (hy : ARel n μ w y v)
    (ox oy : Operand) (hc : cst = true → (∃ c, ox = .const c) ∨ ∃ c, oy = .const c) :
    ∃ r z, K z ∧ (do eqGuard op t ox oy u v; binOp op t u v : Sem Value).run P w = .ok r w ∧ ARel n μ w z r := by
  unfold abin at h
  split at h
  · rename_i k a k' b
    cases hx; cases hy
    rename_i hx hy
    cases hx; cases hy
    have fin : (∃ r z, K z ∧ (binOp op t (.int k a) (.int k' b)).run P w = .ok r w ∧ ARel n μ w z r) → ∃ r z, K z ∧ (do eqGuard op t ox oy (.int k a) (.int k' b); binOp op t (.int k a) (.int k' b) : Sem Value).run P w = .ok r w ∧ ARel n μ w z r := by
      rintro ⟨r, z, h1, h2, h3⟩
      exact ⟨r, z, h1, by rw [eqGuard_at_int]; simpa using h2, h3⟩
    apply fin
    split at h
    · exact ashift_sound h t
    · exact ashift_sound h t
    · cases hb : kEq k k' with
      | false => rw [hb] at h; cases h
      | true =>
        rw [hb] at h
        have := kEq_eq hb; subst this
        exact abinInt_sound h t
  · rename_i a b
    cases hx; cases hy
    rename_i hx hy
    cases hx; cases hy
    obtain ⟨r, z, h1, h2, h3⟩ := abinStr_sound (P := P) (n := n) (μ := μ) (w := w) h t
    exact ⟨r, z, h1, by rw [eqGuard_at_string]; simpa using h2, h3⟩
  · split at h
    · cases h
    · rename_i ty hty
      obtain ⟨D0, hD, htd, hpl⟩ := hT.und t ty hty
      split at h
      · rename_i b hb
        exact nilish_sound hD htd hb hx hy cst h ox oy hc
      · split at h
        · -- bool
          rename_i hb
          split at h
          · rename_i a b ha hb'
            have h1 := asB_rel hx ha
            have h2 := asB_rel hy hb'
            subst h1 h2
            have hD' := hD; rw [tdOf_bool (htd.trans hb)] at hD'
            cases op <;> simp only [abinBool] at h
            · exact ⟨_, _, h, run_eq_by (.inl rfl) (fun op => by rw [eqGuard_at_bool]; rfl) ⟨rfl, rfl⟩ (fun d => run_equalIn_bool' w d t _ _ hD'), .d _ _ (.bool _)⟩
            · exact ⟨_, _, h, run_eq_by (.inr rfl) (fun op => by rw [eqGuard_at_bool]; rfl) ⟨rfl, rfl⟩ (fun d => run_equalIn_bool' w d t _ _ hD'), .d _ _ (.bool _)⟩
          · cases h
        · -- slice against nil
          rename_i e hb
          split at h
          · rename_i sz l
            obtain ⟨hne, h⟩ := h
            cases hx; cases hy
            rename_i hx hy
            cases hy
            have hD' := hD; rw [tdOf_slice (htd.trans hb)] at hD'
            cases hx with
            | empty sz b c hc => exact absurd rfl hne
            | list sz l a c vs hl hc hok hsz hone hcell hr =>
              rcases abinNil_sound h with ⟨rfl, hk⟩ | ⟨rfl, hk⟩
              · exact ⟨_, _, hk, run_eq_by (b := false) (.inl rfl) (fun op => by rw [eqGuard_at_slice]; rfl) ⟨rfl, rfl⟩ (fun d => by simp [Op.equalIn, run_underlying hD']), .d _ _ (.bool _)⟩
              · exact ⟨_, _, hk, run_eq_by (b := false) (.inr rfl) (fun op => by rw [eqGuard_at_slice]; rfl) ⟨rfl, rfl⟩ (fun d => by simp [Op.equalIn, run_underlying hD']), .d _ _ (.bool _)⟩
          · cases h
        · -- structs
          rename_i fs hb
          split at h
          · rename_i a b ha hb'
            have h1 := toD_rel hx ha
            have h2 := toD_rel hy hb'
            cases hp : ty.plain with
            | false => rw [hp] at h; cases h
            | true =>
              rw [hp] at h
              simp only [cond_true] at h
              obtain ⟨_, _, hg⟩ := hpl hp
              split at h
              · rename_i c hc'
                have he := eqD_sound hT 8 t a b c hc' u v h1 h2 10000 (by omega)
                have hagg : ∃ xs ys, u = .agg xs ∧ v = .agg ys := by
                  have hc2 := hc'
                  unfold eqD at hc2
                  rw [hty] at hc2
                  simp only [hb] at hc2
                  split at hc2 <;> first | (rename_i hk; cases hk; done) | skip
                  · rename_i fs' xs ys hk
                    cases h1; cases h2
                    exact ⟨_, _, rfl, rfl⟩
                  · cases hc2
                obtain ⟨xs, ys, rfl, rfl⟩ := hagg
                rcases abinNil_sound h with ⟨rfl, hk⟩ | ⟨rfl, hk⟩
                · exact ⟨_, _, hk, by rw [Sem.run_bind, run_eqGuard_agg w _ t ox oy xs ys hg]; simp only [Result.andThen_ok]; rw [run_eql_struct, he]; rfl, .d _ _ (.bool _)⟩
                · exact ⟨_, _, hk, by rw [Sem.run_bind, run_eqGuard_agg w _ t ox oy xs ys hg]; simp only [Result.andThen_ok]; rw [run_neq_struct, he]; rfl, .d _ _ (.bool _)⟩
              · cases h
          · cases h
        · cases h
end
end Go.Pm
end
section
/- The operations that leave memory as it is. -/
namespace Go.Pm

def fldT (T : Tab) (t : TypeId) (f : Nat) : Option (TypeId × Nat) :=
  match T t with
  | some y => match y.td with
    | .struct fs => fs[f]?
    | _ => none
  | none => none

/-- A part of an aggregate of abstract values. -/
def partA (T : Tab) (t : TypeId) (cs : List AV) (off : Nat) : Option AV :=
  match T t with
  | some y => cond (isAggT y.td) (cond (Nat.ble (off + y.size) cs.length) (some (.agg ((cs.drop off).take y.size))) none) (cs[off]?)
  | none => none

def aunOp (op : UnOp) (x : AV) (K : AV → Prop) : Prop :=
  match op, x with
  | .neg, .d (.int k n) => exactOr k (0 - n) K
  | .not, .tt => K .ff
  | .not, .ff => K .tt
  | .not, .d (.bool b) => K (.d (.bool !b))
  | .xor, .d (.int k n) => K (.d (.int k (bits .xor k (if k.signed then -1 else k.max) n)))
  | _, _ => False

def aconv (T : Tab) (src dst : TypeId) (x : AV) (K : AV → Prop) : Prop :=
  match T src, T dst with
  | some _, some yd =>
    match yd.td, x with
    | .int k, .d (.int _ n) => exactOr k n K
    | .str, .d (.str s) => K (.d (.str s))
    | _, _ => False
  | _, _ => False

def afield (T : Tab) (t : TypeId) (x : AV) (f : Nat) (K : AV → Prop) : Prop :=
  match fldT T t f with
  | some (ft, off) =>
    match x with
    | .agg cs => match partA T ft cs off with
      | some v => K v
      | none => False
    | .d (.agg ds) => match partD T ft ds off with
      | some v => K (.d v)
      | none => False
    | _ => False
  | none => False

def aindex (T : Tab) (t : TypeId) (x i : AV) (K : AV → Prop) : Prop :=
  match T t with
  | some y =>
    match y.td, x, i with
    | .str, .d (.str s), .d (.int _ n) => (0 ≤ n ∧ n < s.length) ∧ K (.d (.int .u8 ((s.getD n.toNat 0).toNat : Int)))
    | .array m e, x, .d (.int _ n) => match T e with
      | some ye => match toD x with
        | some (.agg ds) => cond (!isAggT ye.td && Nat.beq ye.size 1) ((0 ≤ n ∧ n < m ∧ ds.length = m) ∧ K (.d (ds.getD n.toNat .nilp))) False
        | _ => False
      | none => False
    | _, _, _ => False
  | none => False

def aindexAddr (T : Tab) (h : Heap) (t : TypeId) (x i : AV) (K : AV → Prop) : Prop :=
  match T t with
  | some y =>
    match y.td, x, i with
    | .slice e, .d (.list sz l), .d (.int _ n) => match T e with
      | some ye => cond (Nat.beq ye.size sz) ((0 ≤ n ∧ n < l.length) ∧ ∀ u, l[n.toNat]? = some u → K (.rd u.cells)) False
      | none => False
    | .slice e, .own b ver sz, .d (.int _ n) => match T e with
      | some ye => match h.get b with
        | .row _ _ l ver' => cond (Nat.beq ye.size sz) ((ver = ver' ∧ 0 ≤ n ∧ n < l.length) ∧ K (.rptr b ver sz n.toNat 0)) False
        | .nest _ _ _ ll ver' _ => cond (Nat.beq ye.size sz) ((ver = ver' ∧ 0 ≤ n ∧ n < ll.length) ∧ K (.rptr b ver sz n.toNat 0)) False
        | _ => False
      | none => False
    | .slice e, .cut b ver sz off m, .d (.int _ n) => match T e with
      | some ye => cond (Nat.beq ye.size sz) ((0 ≤ n ∧ n < m) ∧ K (.rptr b ver sz (off + n.toNat) 0)) False
      | none => False
    | .array len e, .ptr b off, .d (.int _ n) => match T e with
      | some ye => (0 ≤ n ∧ n < len) ∧ K (.ptr b (off + n.toNat * ye.size))
      | none => False
    | .array len e, .rd cs, .d (.int _ n) => match T e with
      | some ye => (0 ≤ n ∧ n < len) ∧ K (.rd (cs.drop (n.toNat * ye.size)))
      | none => False
    | _, _, _ => False
  | none => False

def afieldAddr (T : Tab) (t : TypeId) (x : AV) (f : Nat) (K : AV → Prop) : Prop :=
  match fldT T t f with
  | some (ft, o) => match T ft with
    | some y => cond (Nat.beq y.size 0) False (match x with
      | .ptr b off => K (.ptr b (off + o))
      | .rptr b ver sz i off => K (.rptr b ver sz i (off + o))
      | .rd cs => K (.rd (cs.drop o))
      | _ => False)
    | none => False
  | none => False

def aload (T : Tab) (h : Heap) (t : TypeId) (x : AV) (K : AV → Prop) : Prop :=
  match T t with
  | some y =>
    match x with
    | .ptr b off => match h.get b with
      | .var cs _ => cond (isAggT y.td) (cond (Nat.ble (off + y.size) cs.length) (K (.agg ((cs.drop off).take y.size))) False) (match cs[off]? with
        | some c => K c
        | none => False)
      | .dvar m f _ => cond (isAggT y.td) (off + y.size ≤ m ∧ K (.d (.agg (tabl y.size fun i => f (off + i))))) (off < m ∧ K (.d (f off)))
      | _ => False
    | .rd cs => cond (isAggT y.td) (cond (Nat.ble y.size cs.length) (K (.d (.agg (cs.take y.size)))) False) (match cs with
        | c :: _ => K (.d c)
        | [] => False)
    | .rptr b ver sz i off => match h.get b with
      | .row _ sz' l ver' => cond (Nat.beq sz sz') ((ver = ver' ∧ i < l.length) ∧ ∀ u, l[i]? = some u →
          cond (isAggT y.td) (cond (Nat.ble (off + y.size) u.cells.length) (K (.d (.agg ((u.cells.drop off).take y.size)))) False) (match u.cells[off]? with
            | some c => K (.d c)
            | none => False)) False
      | .nest _ _ _ ll ver' hole => match hole with
        | some (j, x) => cond (!isAggT y.td && (Nat.beq sz 1 && Nat.beq off 0)) ((ver = ver' ∧ i = j ∧ i < ll.length) ∧ K x) False
        | none => False
      | _ => False
    | _ => False
  | none => False

def solidPtr : AV → Bool
  | .ptr _ _ | .rptr _ _ _ _ _ | .rd _ | .fn _ _ | .d (.fn _) | .yld _ | .iface _ _ | .d (.iface _ _) => true
  | _ => false

/-- Bounds of a cut: low and high, or what stands for them. -/
def aslice (T : Tab) (t : TypeId) (x : AV) (lo hi : Option AV) (K : AV → Prop) : Prop :=
  match T t with
  | some y =>
    match y.td, x, lo, hi with
    | .str, .d (.str s), none, none => K (.d (.str s))
    | .str, .d (.str s), some (.d (.int _ l)), none => (0 ≤ l ∧ l ≤ s.length) ∧ K (.d (.str (s.drop l.toNat)))
    | .str, .d (.str s), none, some (.d (.int _ r)) => (0 ≤ r ∧ r ≤ s.length) ∧ K (.d (.str (s.take r.toNat)))
    | .str, .d (.str s), some (.d (.int _ l)), some (.d (.int _ r)) => (0 ≤ l ∧ l ≤ r ∧ r ≤ s.length) ∧ K (.d (.str ((s.take r.toNat).drop l.toNat)))
    | .slice e, .d (.list sz q), none, none => match T e with
      | some ye => cond (Nat.beq ye.size sz) (K (.d (.list sz q))) False
      | none => False
    | .slice e, .d (.list sz q), some (.d (.int _ l)), none => match T e with
      | some ye => cond (Nat.beq ye.size sz) ((0 ≤ l ∧ l ≤ q.length) ∧ K (.d (.list sz (q.drop l.toNat)))) False
      | none => False
    | .slice e, .d (.list sz q), none, some (.d (.int _ r)) => match T e with
      | some ye => cond (Nat.beq ye.size sz) ((0 ≤ r ∧ r ≤ q.length) ∧ K (.d (.list sz (q.take r.toNat)))) False
      | none => False
    | .slice e, .d (.list sz q), some (.d (.int _ l)), some (.d (.int _ r)) => match T e with
      | some ye => cond (Nat.beq ye.size sz) ((0 ≤ l ∧ l ≤ r ∧ r ≤ q.length) ∧ K (.d (.list sz ((q.take r.toNat).drop l.toNat)))) False
      | none => False
    | _, _, _, _ => False
  | none => False

def alen (T : Tab) (h : Heap) (t : TypeId) (x : AV) (K : AV → Prop) : Prop :=
  match T t with
  | some y =>
    match y.td, x with
    | .str, .d (.str s) => s.length ≤ 9223372036854775807 → K (.d (.int .i64 s.length))
    | .slice _, .d (.list _ l) => l.length ≤ 9223372036854775807 → K (.d (.int .i64 l.length))
    | .slice _, .d .nils => K (.d (.int .i64 0))
    | .slice _, .own b ver _ => match h.get b with
      | .row _ _ l ver' => ver = ver' ∧ (l.length ≤ 9223372036854775807 → K (.d (.int .i64 l.length)))
      | .nest _ _ _ ll ver' _ => ver = ver' ∧ (ll.length ≤ 9223372036854775807 → K (.d (.int .i64 ll.length)))
      | _ => False
    | .slice _, .cut _ _ _ _ m => m ≤ 9223372036854775807 → K (.d (.int .i64 m))
    | .array n _, _ => K (.d (.int .i64 n))
    | .ptr e, _ => match T e with
      | some ye => match ye.td with
        | .array n _ => K (.d (.int .i64 n))
        | _ => False
      | none => False
    | .map _ _, .d .nilmap => K (.d (.int .i64 0))
    | .map _ _, .map b => match h.get b with
      | .map _ es _ => K (.d (.int .i64 es.length))
      | _ => False
    | _, _ => False
  | none => False

def minmax (mx : Bool) (x y : AV) (K : AV → Prop) : Prop :=
  match x, y with
  | .d (.int k a), .d (.int _ b) => K (.d (.int k (cond mx (if b > a then b else a) (if b < a then b else a))))
  | .d (.str a), .d (.str b) => K (.d (.str (cond mx (if Op.bytesLess a b then b else a) (if (Op.bytesLess a b || a == b) then a else b))))
  | _, _ => False
def minmaxs (mx : Bool) : AV → List AV → (AV → Prop) → Prop
  | x, [], K => K x
  | x, y :: r, K => minmax mx x y fun z => minmaxs mx z r K

def apure (T : Tab) (s : St) (op : Op) (K : AV → Prop) : Prop :=
  match op with
  | .move x => K (ev s x)
  | .assign x => K (ev s x)
  | .pick c a b => match ev s c with
    | .tt => K (ev s a)
    | .ff => K (ev s b)
    | .d (.bool c) => match asB (ev s a), asB (ev s b) with
      | some p, some q => K (.d (.bool (cond c p q)))
      | _, _ => (c = true → K (ev s a)) ∧ (c = false → K (ev s b))
    | _ => False
  | .binOp o t x y _ => abin T o t (match x, y with
      | .const _, _ => true
      | _, .const _ => true
      | _, _ => false) (ev s x) (ev s y) K
  | .unOp o _ x => aunOp o (ev s x) K
  | .convert src dst x => aconv T src dst (ev s x) K
  | .makeInterface t x => match T t with
    | some y => match y.td with
      | .iface _ => False
      | _ => match toD (ev s x) with
        | some d => K (.d (.iface t d))
        | none => K (.iface t (ev s x))
    | none => False
  | .makeFunc (.func f) first caps => match first.toList with
    | [] => K (.fn f (caps.toList.map (ev s)))
    | _ => False
  | .field t x f => afield T t (ev s x) f K
  | .extract x i => match ev s x with
    | .tup vs => match vs[i]? with
      | some v => K v
      | none => False
    | _ => False
  | .nilCheck x => match ev s x with
    | .d (.ptr cs) => K (.rd cs)
    | y => cond (solidPtr y) (K y) False
  | .index t x i => aindex T t (ev s x) (ev s i) K
  | .indexAddr t x i => aindexAddr T s.hp t (ev s x) (ev s i) K
  | .fieldAddr t x f => afieldAddr T t (ev s x) f K
  | .load t x => aload T s.hp t (ev s x) K
  | .slice t x lo hi none => aslice T t (ev s x) (lo.map (ev s)) (hi.map (ev s)) K
  | .call c => match c.callee with
    | .builtin .len => match c.argTypes.toList, c.args.toList with
      | t :: _, x :: _ => alen T s.hp t (ev s x) K
      | _, _ => False
    | .builtin .max => match c.args.toList with
      | x :: r => minmaxs true (ev s x) (r.map (ev s)) K
      | _ => False
    | .builtin .min => match c.args.toList with
      | x :: r => minmaxs false (ev s x) (r.map (ev s)) K
      | _ => False
    | _ => False
  | _ => False

end Go.Pm
end
section
/- The operations that leave memory as it is: the model does the same. -/
namespace Go.Pm

theorem add_add (a : Addr) (m n : Nat) : (a.add m).add n = a.add (m + n) := by
  unfold Addr.add
  by_cases hm : m = 0
  · subst hm; simp
  · by_cases hn : n = 0
    · subst hn; simp [hm]
    · rw [if_neg hm, if_neg hn, if_neg (by omega)]
      simp [Nat.add_assoc]

theorem add_lit (b o n : Nat) : (⟨b, o, none⟩ : Addr).add n = ⟨b, o + n, none⟩ := by
  unfold Addr.add; split <;> simp_all

theorem bytes_get (l : List UInt8) (i : Nat) : (⟨l.toArray⟩ : ByteArray)[i]? = l[i]? := by
  by_cases h : i < l.length
  · rw [List.getElem?_eq_getElem h]
    have h' : i < (⟨l.toArray⟩ : ByteArray).size := by simpa [ByteArray.size] using h
    rw [getElem?_pos (⟨l.toArray⟩ : ByteArray) i h']
    rfl
  · rw [List.getElem?_eq_none (by omega)]
    have h' : ¬ i < (⟨l.toArray⟩ : ByteArray).size := by simpa [ByteArray.size] using h
    rw [getElem?_neg (⟨l.toArray⟩ : ByteArray) i h']

section
variable {P : Program} {T : Tab} (hT : TabOk P T) {n : Nat} {μ : Mu} {w : World}

theorem aunOp_sound {op : UnOp} {x : AV} {K : AV → Prop} (h : aunOp op x K) {u : Value} (hx : ARel n μ w x u) : ∃ r z, K z ∧ (Op.unary op u).run P w = .ok r w ∧ ARel n μ w z r := by
  unfold aunOp at h
  split at h
  · cases hx; rename_i hx; cases hx
    exact ⟨_, _, exactOr_sound h, rfl, .d _ _ (.int _ _)⟩
  · cases hx; exact ⟨_, _, h, rfl, .ff⟩
  · cases hx; exact ⟨_, _, h, rfl, .tt⟩
  · cases hx; rename_i hx; cases hx
    exact ⟨_, _, h, rfl, .d _ _ (.bool _)⟩
  · cases hx; rename_i hx; cases hx
    exact ⟨_, _, h, by simp [Op.unary, intBits_xor], .d _ _ (.int _ _)⟩
  · cases h

include hT in
theorem aconv_sound {src dst : TypeId} {x : AV} {K : AV → Prop} (h : aconv T src dst x K) {u : Value} (hx : ARel n μ w x u) : ∃ r z, K z ∧ (convert src dst u).run P w = .ok r w ∧ ARel n μ w z r := by
  unfold aconv at h
  split at h
  · rename_i ys yd h1 h2
    obtain ⟨d1, hd1, _⟩ := run_und hT h1 w
    obtain ⟨d2, hd2, ht2⟩ := run_und hT h2 w
    split at h
    · rename_i k k' n' hk
      cases hx; rename_i hx; cases hx
      have := tdOf_int (ht2.trans hk); subst this
      exact ⟨_, _, exactOr_sound h, by simp [convert, hd1, hd2, Conv.intToInt], .d _ _ (.int _ _)⟩
    · rename_i s hk
      cases hx; rename_i hx; cases hx; rename_i hs
      have := tdOf_str (ht2.trans hk); subst this
      exact ⟨_, _, h, by simp [convert, hd1, hd2], .d _ _ (.str _ hs)⟩
    · cases h
  · cases h

include hT in
theorem fldT_sound {t : TypeId} {f : Nat} {ft : TypeId} {o : Nat} (h : fldT T t f = some (ft, o)) (w : World) : ∃ (fs : Array Field) (F : Field), (underlying t).run P w = .ok (.struct fs) w ∧ fs[f]? = some F ∧ F.type = ft ∧ F.offset = o := by
  unfold fldT at h
  split at h
  · rename_i y hy
    obtain ⟨d, hd, htd⟩ := run_und hT hy w
    split at h
    · rename_i fs hfs
      obtain ⟨F, rfl, hF⟩ := tdOf_struct (htd.trans hfs)
      subst hF
      rw [List.getElem?_map, Option.map_eq_some_iff] at h
      obtain ⟨g, hg, he⟩ := h
      cases he
      exact ⟨F, g, hd, by simpa using hg, rfl, rfl⟩
    · cases h
  · cases h

include hT in
theorem partA_sound {t : TypeId} {cs : List AV} {off : Nat} {x : AV} (h : partA T t cs off = some x) {vs : List Value} (hl : vs.length = cs.length) (ho : ∀ (i : Nat) (v : Value), vs[i]? = some v → v.oneCell' = true)
    (hr : ∀ (i : Nat) (c : AV) (v : Value), cs[i]? = some c → vs[i]? = some v → ARel n μ w c v) : ∃ v, (part t vs.toArray off).run P w = .ok v w ∧ ARel n μ w x v := by
  unfold partA at h
  split at h
  · rename_i y hy
    unfold part
    rw [Sem.run_bind, run_isAgg hT hy w]
    cases ha : isAggT y.td with
    | true =>
      rw [ha] at h
      simp only [Result.andThen_ok, if_true]
      cases hb : Nat.ble (off + y.size) cs.length with
      | false => rw [hb] at h; cases h
      | true =>
        rw [hb] at h
        simp only [cond_true] at h
        cases h
        have hle := Nat.le_of_ble_eq_true hb
        rw [Sem.run_bind, run_size hT hy w]
        refine ⟨_, rfl, ?_⟩
        have he : vs.toArray.extract off (off + y.size) = ((vs.drop off).take y.size).toArray := by
          simp [List.extract_toArray]
        rw [he]
        refine .agg _ _ (by simp only [List.length_take, List.length_drop]; omega) (fun i v hv => ?_) (fun i c v hc hv => ?_)
        · rw [List.getElem?_take] at hv
          split at hv
          · rw [List.getElem?_drop] at hv; exact ho _ v hv
          · cases hv
        · rw [List.getElem?_take] at hc hv
          split at hc
          · rename_i hi
            rw [if_pos hi, List.getElem?_drop] at hv
            rw [List.getElem?_drop] at hc
            exact hr _ c v hc hv
          · cases hc
    | false =>
      rw [ha] at h
      simp only [Result.andThen_ok, Bool.false_eq_true, if_false]
      simp only [cond_false] at h
      have hi : off < vs.length := by have := (List.getElem?_eq_some_iff.1 h).1; omega
      have hv : vs.toArray[off]? = some vs[off] := by simp [hi]
      rw [hv]
      exact ⟨_, rfl, hr off x _ h (List.getElem?_eq_getElem hi)⟩
  · cases h

include hT in
theorem afield_sound {t : TypeId} {x : AV} {f : Nat} {K : AV → Prop} (h : afield T t x f K) {u : Value} (hx : ARel n μ w x u) : ∃ r z, K z ∧ (Instr.field t u f).run P w = .ok r w ∧ ARel n μ w z r := by
  unfold afield at h
  split at h
  · rename_i ft off hf
    obtain ⟨fs, F, h1, h2, rfl, rfl⟩ := fldT_sound hT hf w
    split at h
    · split at h
      · rename_i cs v hp
        cases hx with
        | agg cs vs hl ho hr =>
        obtain ⟨r, h3, h4⟩ := partA_sound (n := n) (μ := μ) (w := w) hT hp hl ho hr
        exact ⟨r, v, h, by simp [Instr.field, h1, h2, asAgg, h3], h4⟩
      · cases h
    · split at h
      · rename_i cs v hp
        cases hx; rename_i hx
        cases hx with
        | agg cs vs hl ho hr =>
        obtain ⟨r, h3, h4⟩ := partD_sound (w := w) hT hp hl ho hr
        exact ⟨r, _, h, by simp [Instr.field, h1, h2, asAgg, h3], .d _ _ h4⟩
      · cases h
    · cases h
  · cases h

include hT in
theorem aindex_sound {t : TypeId} {x i : AV} {K : AV → Prop} (h : aindex T t x i K) {u v : Value} (hx : ARel n μ w x u) (hi : ARel n μ w i v) : ∃ r z, K z ∧ (Instr.index t u v).run P w = .ok r w ∧ ARel n μ w z r := by
  unfold aindex at h
  split at h
  · rename_i y hy
    obtain ⟨d, hd, htd⟩ := run_und hT hy w
    split at h
    · rename_i s k m hk
      cases hx; rename_i hx; cases hx
      cases hi; rename_i hi; cases hi
      obtain ⟨⟨h0, h1⟩, h⟩ := h
      have := tdOf_str (htd.trans hk); subst this
      have hlt : m.toNat < s.length := by omega
      refine ⟨_, _, h, ?_, .d _ _ (.int _ _)⟩
      simp [Instr.index, asIntOf, hd, h0, bytes_get, List.getElem?_eq_getElem hlt, List.getD_eq_getElem?_getD]
    · rename_i m e k q hk
      split at h
      · rename_i ye hye
        split at h
        · rename_i ds hds
          cases hc : (!isAggT ye.td && Nat.beq ye.size 1) with
          | false => rw [hc] at h; cases h
          | true =>
            rw [hc, cond_true] at h
            simp only [Bool.and_eq_true, Bool.not_eq_true'] at hc
            have c2 := Nat.eq_of_beq_eq_true hc.2
            obtain ⟨⟨h0, h1, h2⟩, h⟩ := h
            have := tdOf_array (htd.trans hk); subst this
            have hxr := toD_rel hx hds
            cases hi; rename_i hi; cases hi
            cases hxr with
            | agg cs vs hl ho hr =>
            have hlt : q.toNat < ds.length := by omega
            have hp : partD T e ds (q.toNat * 1) = some (ds.getD q.toNat .nilp) := by
              simp only [partD, hye, hc.1, cond_false, Nat.mul_one]
              rw [List.getD_eq_getElem?_getD, List.getElem?_eq_getElem hlt]; rfl
            obtain ⟨r, h3, h4⟩ := partD_sound (w := w) hT hp hl ho hr
            have hs := run_size hT hye w
            rw [c2] at hs
            exact ⟨r, _, h, by simp only [Instr.index, asIntOf, Sem.run_bind, Sem.run_pure, Result.andThen_ok, hd, h0, h1, and_self, if_true, hs, h3], .d _ _ h4⟩
        · cases h
      · cases h
    · cases h
  · cases h

include hT in
theorem aindexAddr_sound {hp : Heap} (hh : HRel hp μ w) {t : TypeId} {x i : AV} {K : AV → Prop} (h : aindexAddr T hp t x i K) {u v : Value} (hx : ARel hp.nx μ w x u) (hi : ARel hp.nx μ w i v) : ∃ r z, K z ∧ (Instr.indexAt t u v).run P w = .ok r w ∧ ARel hp.nx μ w z r := by
  unfold aindexAddr at h
  split at h
  · rename_i y hy
    obtain ⟨d, hd, htd⟩ := run_und hT hy w
    split at h
    · rename_i e sz l k m hk
      split at h
      · rename_i ye hye
        cases hb : Nat.beq ye.size sz with
        | false => rw [hb] at h; cases h
        | true =>
          rw [hb] at h
          have hsz := Nat.eq_of_beq_eq_true hb
          obtain ⟨⟨h0, h1⟩, h⟩ := h
          have := tdOf_slice (htd.trans hk); subst this
          have hs := run_size hT hye w
          cases hi; rename_i hi; cases hi
          cases hx; rename_i hx
          have hlt : m.toNat < l.length := by omega
          cases hx with
          | empty sz b c hc => exact absurd hlt (by simp)
          | list sz l a c vs hl hc hok hsz' hone hcell hr =>
            refine ⟨.pointer (some (a.add (m.toNat * ye.size))), _, h l[m.toNat] (List.getElem?_eq_getElem hlt), ?_, ?_⟩
            · simp [Instr.indexAt, asIntOf, hd, h0, h1, hs]
            · refine .rd _ _ (fun j => vs m.toNat j) (fun j q hj => ?_) (fun j q hj => hone _ _ _ _ (List.getElem?_eq_getElem hlt) hj) (fun j q hj => ?_) (fun j q hj => hr _ _ _ _ (List.getElem?_eq_getElem hlt) hj)
              · rw [add_block]; exact hok _ _ _ _ (List.getElem?_eq_getElem hlt) hj
              · rw [add_add, hsz]; exact hcell _ _ _ _ (List.getElem?_eq_getElem hlt) hj
      · cases h
    · rename_i e b ver sz k m hk
      split at h
      · rename_i ye hye
        split at h
        · rename_i e2 sz2 l ver' hget
          cases hb : Nat.beq ye.size sz with
          | false => rw [hb] at h; cases h
          | true =>
            rw [hb] at h
            have hsz := Nat.eq_of_beq_eq_true hb
            obtain ⟨⟨hve, h0, h1⟩, h⟩ := h
            have := tdOf_slice (htd.trans hk); subst this
            have hs := run_size hT hye w
            cases hi; rename_i hi; cases hi
            cases hx with
            | own b ver sz m' a c hb' hn hc hv h0' hr =>
            have ho := hh.obj b
            rw [hget] at ho
            obtain ⟨bd, C, hbd, hv2, hpos, _, hl, hlen, hrow⟩ := ho
            obtain ⟨h4, _, h5⟩ := hr bd hbd (by omega)
            obtain rfl := h4 (by omega)
            refine ⟨.pointer (some ((⟨bd.blk, 0, none⟩ : Addr).add (m.toNat * ye.size))), _, h, ?_, ?_⟩
            · have : m < (m' : Int) := by omega
              simp [Instr.indexAt, asIntOf, hd, h0, this, hs]
            · refine .rptr _ _ _ _ _ _ hb' hv h0' (fun bd2 h2 h3 => ?_)
              obtain rfl : bd = bd2 := Option.some.inj (hbd.symm.trans h2)
              rw [add_lit, hsz, Nat.zero_add, Nat.add_zero]
        · rename_i e1 e2 sz2 ll ver' hole hget
          cases hb : Nat.beq ye.size sz with
          | false => rw [hb] at h; cases h
          | true =>
            rw [hb] at h
            have hsz := Nat.eq_of_beq_eq_true hb
            obtain ⟨⟨hve, h0, h1⟩, h⟩ := h
            have := tdOf_slice (htd.trans hk); subst this
            have hs := run_size hT hye w
            cases hi; rename_i hi; cases hi
            cases hx with
            | own b ver sz m' a c hb' hn hc hv h0' hr =>
            have ho := hh.obj b
            rw [hget] at ho
            obtain ⟨bd, C, S, hbd, hv2, hpos, _, hl, hlen, _⟩ := ho
            obtain ⟨h4, _, h5⟩ := hr bd hbd (by omega)
            obtain rfl := h4 (by omega)
            refine ⟨.pointer (some ((⟨bd.blk, 0, none⟩ : Addr).add (m.toNat * ye.size))), _, h, ?_, ?_⟩
            · have : m < (m' : Int) := by omega
              simp [Instr.indexAt, asIntOf, hd, h0, this, hs]
            · refine .rptr _ _ _ _ _ _ hb' hv h0' (fun bd2 h2 h3 => ?_)
              obtain rfl : bd = bd2 := Option.some.inj (hbd.symm.trans h2)
              rw [add_lit, hsz, Nat.zero_add, Nat.add_zero]
        · cases h
      · cases h
    · rename_i e b ver sz off m' k m hk
      split at h
      · rename_i ye hye
        cases hb : Nat.beq ye.size sz with
        | false => rw [hb] at h; cases h
        | true =>
          rw [hb] at h
          have hsz := Nat.eq_of_beq_eq_true hb
          obtain ⟨⟨h0, h1⟩, h⟩ := h
          have := tdOf_slice (htd.trans hk); subst this
          have hs := run_size hT hye w
          cases hi; rename_i hi; cases hi
          cases hx with
          | cut b ver sz off m' a c hb' hn hc hv h0' hr =>
          refine ⟨.pointer (some (a.add (m.toNat * ye.size))), _, h, ?_, ?_⟩
          · simp [Instr.indexAt, asIntOf, hd, h0, h1, hs]
          · refine .rptr _ _ _ _ _ _ hb' hv h0' (fun bd h2 h3 => ?_)
            obtain ⟨h4, _⟩ := hr bd h2 h3
            rw [h4 (by omega), add_lit, hsz, Nat.add_mul]; rfl
      · cases h
    · rename_i len e b off k m hk
      split at h
      · rename_i ye hye
        obtain ⟨⟨h0, h1⟩, h⟩ := h
        have := tdOf_array (htd.trans hk); subst this
        have hs := run_size hT hye w
        cases hi; rename_i hi; cases hi
        cases hx with
        | ptr b off a hb hr =>
        refine ⟨.pointer (some (a.add (m.toNat * ye.size))), _, h, ?_, ?_⟩
        · simp [Instr.indexAt, asIntOf, hd, h0, h1, hs, Instr.sureAddr]
        · refine .ptr _ _ _ hb (fun bd h2 h3 => ?_)
          rw [hr bd h2 h3, add_lit]
      · cases h
    · rename_i len e cs k m hk
      split at h
      · rename_i ye hye
        obtain ⟨⟨h0, h1⟩, h⟩ := h
        have := tdOf_array (htd.trans hk); subst this
        have hs := run_size hT hye w
        cases hi; rename_i hi; cases hi
        cases hx with
        | rd cs a vs hok hone hcell hr =>
        refine ⟨.pointer (some (a.add (m.toNat * ye.size))), _, h, ?_, ?_⟩
        · simp [Instr.indexAt, asIntOf, hd, h0, h1, hs, Instr.sureAddr]
        · refine .rd _ _ (fun j => vs (m.toNat * ye.size + j)) (fun j q hj => ?_) (fun j q hj => ?_) (fun j q hj => ?_) (fun j q hj => ?_) <;> rw [List.getElem?_drop] at hj
          · rw [add_block]; exact hok _ _ hj
          · exact hone _ _ hj
          · rw [add_add]; exact hcell _ _ hj
          · exact hr _ _ hj
      · cases h
    · cases h
  · cases h

include hT in
theorem afieldAddr_sound {t : TypeId} {x : AV} {f : Nat} {K : AV → Prop} (h : afieldAddr T t x f K) {u : Value} (hx : ARel n μ w x u) : ∃ r z, K z ∧ (Instr.fieldAt t u f).run P w = .ok r w ∧ ARel n μ w z r := by
  unfold afieldAddr at h
  split at h
  · rename_i ft o hf
    obtain ⟨fs, F, h1, h2, rfl, rfl⟩ := fldT_sound hT hf w
    split at h
    · rename_i y hy
      have hs := run_size hT hy w
      cases hb : Nat.beq y.size 0 with
      | true => rw [hb] at h; cases h
      | false =>
        rw [hb] at h
        simp only [cond_false] at h
        have hne : y.size ≠ 0 := fun e => by rw [e] at hb; cases hb
        split at h
        · cases hx with
          | ptr b off a hb hr =>
          refine ⟨.pointer (some (a.add F.offset)), _, h, by simp [Instr.fieldAt, h1, h2, Instr.sureAddr, fieldPlace, hs, hne], .ptr _ _ _ hb (fun bd h3 h4 => ?_)⟩
          rw [hr bd h3 h4, add_lit]
        · cases hx with
          | rptr b ver sz i off a hb hv h0 hr =>
          refine ⟨.pointer (some (a.add F.offset)), _, h, by simp [Instr.fieldAt, h1, h2, Instr.sureAddr, fieldPlace, hs, hne], .rptr _ _ _ _ _ _ hb hv h0 (fun bd h3 h4 => ?_)⟩
          rw [hr bd h3 h4, add_lit, Nat.add_assoc]
        · cases hx with
          | rd cs a vs hok hone hcell hr =>
          refine ⟨.pointer (some (a.add F.offset)), _, h, by simp [Instr.fieldAt, h1, h2, Instr.sureAddr, fieldPlace, hs, hne], ?_⟩
          refine .rd _ _ (fun j => vs (F.offset + j)) (fun j q hj => ?_) (fun j q hj => ?_) (fun j q hj => ?_) (fun j q hj => ?_) <;> rw [List.getElem?_drop] at hj
          · rw [add_block]; exact hok _ _ hj
          · exact hone _ _ hj
          · rw [add_add]; exact hcell _ _ hj
          · exact hr _ _ hj
        · cases h
    · cases h
  · cases h
end
end Go.Pm
end
section
/- Loads, cuts, lengths; and the whole of the operations that leave memory as it is. -/
namespace Go.Pm

section
variable {P : Program} {T : Tab} (hT : TabOk P T) {n : Nat} {μ : Mu} {w : World}

/-- A run of cells is loaded. -/
theorem run_cells (a : Addr) (vs : List Value) (h : ∀ (j : Nat) (v : Value), vs[j]? = some v → w.cell? (a.add j) = some v) : (loadCells a vs.length).run P w = .ok vs.toArray w :=
  run_loadCells_list (P := P) w a vs h

include hT in
theorem loadVar_agg {t : TypeId} {y : Ty} (hy : T t = some y) (ha : isAggT y.td = true) (a : Addr) (vs : List Value) (hl : vs.length = y.size) (h : ∀ (j : Nat) (v : Value), vs[j]? = some v → w.cell? (a.add j) = some v) :
    (Instr.loadAt t (.pointer (some a))).run P w = .ok (.agg vs.toArray) w := by
  simp only [Instr.loadAt, Instr.sureAddr, Sem.run_bind, Sem.run_pure, Result.andThen_ok, loadVar, run_isAgg hT hy w, ha, if_true, run_size hT hy w, ← hl, run_cells a vs h]
include hT in
theorem loadVar_one {t : TypeId} {y : Ty} (hy : T t = some y) (ha : isAggT y.td = false) (a : Addr) (v : Value) (h : w.cell? a = some v) :
    (Instr.loadAt t (.pointer (some a))).run P w = .ok v w := by
  simp only [Instr.loadAt, Instr.sureAddr, Sem.run_bind, Sem.run_pure, Result.andThen_ok, loadVar, run_isAgg hT hy w, ha, Bool.false_eq_true, if_false, run_load, h]

theorem cell_at {b off : Nat} {C : Array Value} {t : TypeId} {fr : Nat × Nat} (hg : w.heap[b]? = some (.cells C t fr)) (j : Nat) : w.cell? ((⟨b, off, none⟩ : Addr).add j) = C[off + j]? := by
  rw [add_lit]; exact cell_of_row w b (off + j) C t fr hg

include hT in
theorem aload_sound {h : Heap} (hh : HRel h μ w) {t : TypeId} {x : AV} {K : AV → Prop} (hk : aload T h t x K) {u : Value} (hx : ARel h.nx μ w x u) : ∃ r z, K z ∧ (Instr.loadAt t u).run P w = .ok r w ∧ ARel h.nx μ w z r := by
  unfold aload at hk
  split at hk
  · rename_i y hy
    split at hk
    · rename_i b off
      split at hk
      · rename_i cs ty hget
        cases hx with
        | ptr b off a hb hr =>
        have ho := hh.obj b
        rw [hget] at ho
        obtain ⟨bd, C, hbd, hv, hc, hl, hcell⟩ := ho
        have ha := hr bd hbd hv
        subst ha
        cases hag : isAggT y.td with
        | true =>
          rw [hag] at hk
          simp only [cond_true] at hk
          cases hb2 : Nat.ble (off + y.size) cs.length with
          | false => rw [hb2] at hk; cases hk
          | true =>
            rw [hb2] at hk
            have hle := Nat.le_of_ble_eq_true hb2
            refine ⟨.agg ((C.toList.drop off).take y.size).toArray, _, hk, loadVar_agg hT hy hag _ _ (by simp; omega) (fun j v hj => ?_), ?_⟩
            · rw [cell_at hc]
              rw [List.getElem?_take] at hj
              split at hj
              · rw [List.getElem?_drop] at hj; simpa using hj
              · cases hj
            · refine .agg _ _ (by simp; omega) (fun i v hv => ?_) (fun i c v hc' hv => ?_)
              · rw [List.getElem?_take] at hv
                split at hv
                · rename_i hi
                  rw [List.getElem?_drop] at hv
                  have hlt : off + i < cs.length := by omega
                  exact (hcell (off + i) _ v (List.getElem?_eq_getElem hlt) (by simpa using hv)).2
                · cases hv
              · rw [List.getElem?_take] at hc' hv
                split at hc'
                · rename_i hi
                  rw [if_pos hi, List.getElem?_drop] at hv
                  rw [List.getElem?_drop] at hc'
                  exact (hcell (off + i) c v hc' (by simpa using hv)).1
                · cases hc'
        | false =>
          rw [hag] at hk
          simp only [cond_false] at hk
          split at hk
          · rename_i c hc'
            have hi : off < C.size := by have := (List.getElem?_eq_some_iff.1 hc').1; omega
            exact ⟨C[off], c, hk, loadVar_one hT hy hag _ _ (by rw [cell_of_row w bd.blk off C ty _ hc]; exact Array.getElem?_eq_getElem hi), (hcell off c _ hc' (Array.getElem?_eq_getElem hi)).1⟩
          · cases hk
      · rename_i m f ty hget
        cases hx with
        | ptr b off a hb hr =>
        have ho := hh.obj b
        rw [hget] at ho
        obtain ⟨bd, C, hbd, hv, hc, hl, hcell⟩ := ho
        rw [List.length_map, tabl_length] at hl
        have ha := hr bd hbd hv
        subst ha
        have hcell : ∀ (j : Nat) (v : Value), j < m → C[j]? = some v → DRel (okOf μ) w (f j) v ∧ v.oneCell' = true := fun j v h1 h2 => by
          obtain ⟨g1, g2⟩ := hcell j (.d (f j)) v (by rw [List.getElem?_map, tabl_get _ _ _ h1]; rfl) h2
          cases g1; exact ⟨by assumption, g2⟩
        have hone : ∀ j, j < m → (f j).one = true := fun j hj => by
          have g := hcell j C[j] hj (Array.getElem?_eq_getElem (by omega))
          revert g
          generalize C[j] = q
          generalize f j = x
          rintro ⟨g1, g2⟩
          cases g1 <;> first | rfl | (simp [Value.oneCell'] at g2; done)
        cases hag : isAggT y.td with
        | true =>
          rw [hag] at hk
          simp only [cond_true] at hk
          obtain ⟨hle, hk⟩ := hk
          refine ⟨.agg ((C.toList.drop off).take y.size).toArray, _, hk, loadVar_agg hT hy hag _ _ (by simp; omega) (fun j v hj => ?_), ?_⟩
          · rw [cell_at hc]
            rw [List.getElem?_take] at hj
            split at hj
            · rw [List.getElem?_drop] at hj; simpa using hj
            · cases hj
          · refine .d _ _ (.agg _ _ (by simp [tabl_length]; omega) (fun i c hc' => ?_) (fun i c v hc' hv => ?_))
            · have hi := (List.getElem?_eq_some_iff.1 hc').1
              rw [tabl_length] at hi
              rw [tabl_get _ _ _ hi] at hc'; cases hc'
              exact hone _ (by omega)
            · have hi := (List.getElem?_eq_some_iff.1 hc').1
              rw [tabl_length] at hi
              rw [tabl_get _ _ _ hi] at hc'; cases hc'
              rw [List.getElem?_take, if_pos hi, List.getElem?_drop] at hv
              exact (hcell (off + i) v (by omega) (by simpa using hv)).1
        | false =>
          rw [hag] at hk
          simp only [cond_false] at hk
          obtain ⟨hlt, hk⟩ := hk
          have hi : off < C.size := by omega
          exact ⟨C[off], _, hk, loadVar_one hT hy hag _ _ (by rw [cell_of_row w bd.blk off C ty _ hc]; exact Array.getElem?_eq_getElem hi), .d _ _ (hcell off _ hlt (Array.getElem?_eq_getElem hi)).1⟩
      · cases hk
    · rename_i cs
      cases hx with
      | rd cs a vs hok hone hcell hr =>
      cases hag : isAggT y.td with
      | true =>
        rw [hag] at hk
        simp only [cond_true] at hk
        cases hb2 : Nat.ble y.size cs.length with
        | false => rw [hb2] at hk; cases hk
        | true =>
          rw [hb2] at hk
          have hle := Nat.le_of_ble_eq_true hb2
          have hget : ∀ (j : Nat) (v : Value), ((List.range y.size).map vs)[j]? = some v → ∃ u, cs[j]? = some u ∧ v = vs j ∧ j < y.size := by
            intro j v hj
            rw [List.getElem?_map, Option.map_eq_some_iff] at hj
            obtain ⟨i, hi, rfl⟩ := hj
            have hj2 := (List.getElem?_eq_some_iff.1 hi).1
            rw [List.length_range] at hj2
            have hij : i = j := by simpa [hj2] using hi.symm
            subst hij
            exact ⟨cs[i], List.getElem?_eq_getElem (by omega), rfl, hj2⟩
          refine ⟨.agg ((List.range y.size).map vs).toArray, _, hk, loadVar_agg hT hy hag _ _ (by simp) (fun j v hj => ?_), .d _ _ (.agg _ _ (by simp; omega) (fun i c hc => ?_) (fun i c v hc hv => ?_))⟩
          · obtain ⟨u, hu, rfl, _⟩ := hget j v hj
            exact hcell j u hu
          · rw [List.getElem?_take] at hc
            split at hc
            · exact hone i c hc
            · cases hc
          · obtain ⟨u, hu, rfl, hi⟩ := hget i v hv
            rw [List.getElem?_take, if_pos hi] at hc
            exact hr i c hc
      | false =>
        rw [hag] at hk
        simp only [cond_false] at hk
        split at hk
        · rename_i c r
          have := hcell 0 c rfl
          rw [show a.add 0 = a from by simp [Addr.add]] at this
          exact ⟨vs 0, _, hk, loadVar_one hT hy hag _ _ this, .d _ _ (hr 0 c rfl)⟩
        · cases hk
    · rename_i b ver sz i off
      split at hk
      · rename_i e sz' l ver' hget
        cases hq : Nat.beq sz sz' with
        | false => rw [hq] at hk; cases hk
        | true =>
        rw [hq] at hk
        simp only [cond_true] at hk
        have e2 := Nat.eq_of_beq_eq_true hq
        obtain ⟨⟨e1, hkl⟩, hk⟩ := hk
        have hk := And.intro hkl hk
        subst e1 e2
        cases hx with
        | rptr b ver sz i off a hb hv0 h0 hr =>
        have ho := hh.obj b
        rw [hget] at ho
        obtain ⟨bd, C, hbd, hv, hpos, hat, hl, hlen, hrow⟩ := ho
        have ha := hr bd hbd hv
        subst ha
        obtain ⟨hil, hk⟩ := hk
        obtain ⟨fz, hc, _⟩ := hat (row_real hpos.2 (by have := hrow.fits; omega) hil)
        have hu := List.getElem?_eq_getElem hil
        have hk := hk l[i] hu
        have hcl := hrow.len i l[i] hu
        cases hag : isAggT y.td with
        | true =>
          rw [hag] at hk
          simp only [cond_true] at hk
          cases hb2 : Nat.ble (off + y.size) (D.cells l[i]).length with
          | false => rw [hb2] at hk; cases hk
          | true =>
            rw [hb2] at hk
            have hle := Nat.le_of_ble_eq_true hb2
            have hsz : i * sz + sz ≤ C.size := by
              have := hrow.fits
              have h2 : (i + 1) * sz ≤ l.length * sz := Nat.mul_le_mul_right _ (by omega)
              rw [Nat.add_mul] at h2; omega
            refine ⟨.agg ((C.toList.drop (i * sz + off)).take y.size).toArray, _, hk, loadVar_agg hT hy hag _ _ (by simp; omega) (fun j v hj => ?_), .d _ _ (.agg _ _ (by simp; omega) (fun j c hc' => ?_) (fun j c v hc' hv => ?_))⟩
            · rw [cell_at hc]
              rw [List.getElem?_take] at hj
              split at hj
              · rw [List.getElem?_drop] at hj; simpa using hj
              · cases hj
            · rw [List.getElem?_take] at hc'
              split at hc'
              · rw [List.getElem?_drop] at hc'
                exact (hrow.cell i _ _ c hu hc').1
              · cases hc'
            · rw [List.getElem?_take] at hc' hv
              split at hc'
              · rename_i hj
                rw [if_pos hj, List.getElem?_drop] at hv
                rw [List.getElem?_drop] at hc'
                obtain ⟨_, v', hv', hd⟩ := hrow.cell i _ _ c hu hc'
                have : C[i * sz + off + j]? = some v := by simpa using hv
                rw [Nat.add_assoc, hv'] at this
                cases this; exact hd
              · cases hc'
        | false =>
          rw [hag] at hk
          simp only [cond_false] at hk
          split at hk
          · rename_i c hc'
            obtain ⟨_, v', hv', hd⟩ := hrow.cell i _ _ c hu hc'
            exact ⟨v', _, hk, loadVar_one hT hy hag _ _ (by rw [cell_of_row w bd.blk (i * sz + off) C e _ hc]; exact hv'), .d _ _ hd⟩
          · cases hk
      · rename_i e1 e2 sz2 ll ver' hole hget
        split at hk
        · rename_i j c
          cases hq : (!isAggT y.td && (Nat.beq sz 1 && Nat.beq off 0)) with
          | false => rw [hq] at hk; cases hk
          | true =>
          rw [hq, cond_true] at hk
          simp only [Bool.and_eq_true, Bool.not_eq_true'] at hq
          have q2 := Nat.eq_of_beq_eq_true hq.2.1
          have q3 := Nat.eq_of_beq_eq_true hq.2.2
          obtain ⟨⟨e1, rfl, hil⟩, hk⟩ := hk
          subst e1 q2 q3
          cases hx with
          | rptr b ver sz i off a hb hv0 h0 hr =>
          have ho := hh.obj b
          rw [hget] at ho
          obtain ⟨bd, C, S, hbd, hv, hpos, hat, hl, hlen, hle, _, _, _, hrow⟩ := ho
          have ha := hr bd hbd hv
          subst ha
          obtain ⟨fz, hc, _⟩ := hat (fun _ => by omega)
          obtain ⟨v, g1, g2⟩ := hrow i ll[i] (List.getElem?_eq_getElem hil)
          unfold NestAt at g2
          simp only [if_true] at g2
          refine ⟨v, _, hk, loadVar_one hT hy hq.1 _ _ ?_, g2.1⟩
          rw [cell_of_row w bd.blk (i * 1 + 0) _ _ _ hc]
          simpa using g1
        · cases hk
      · cases hk
    · cases hk
  · cases hk

include hT in
theorem alen_sound {h : Heap} (hh : HRel h μ w) {t : TypeId} {x : AV} {K : AV → Prop} (hk : alen T h t x K) {u : Value} (hx : ARel h.nx μ w x u) (ty : TypeId) (ts : List TypeId) (us : List Value) :
    ∃ r z, K z ∧ (Builtin.len_ (t :: ts).toArray ty (u :: us).toArray).run P w = .ok r w ∧ ARel h.nx μ w z r := by
  have hgo : ∀ (m : Int), (Builtin.len_ (t :: ts).toArray ty (u :: us).toArray).run P w = .ok (.int .i64 m) w → ∃ r, (Builtin.len_ (t :: ts).toArray ty (u :: us).toArray).run P w = .ok r w ∧ ARel h.nx μ w (.d (.int .i64 m)) r := fun m h => ⟨_, h, .d _ _ (.int _ _)⟩
  unfold alen at hk
  split at hk
  · rename_i y hy
    obtain ⟨d, hd, htd⟩ := run_und hT hy w
    split at hk
    · rename_i s htk
      cases hx; rename_i hx; cases hx; rename_i hs
      have := tdOf_str (htd.trans htk); subst this
      have hsz : (⟨s.toArray⟩ : ByteArray).size = s.length := by simp [ByteArray.size]
      obtain ⟨r, h1, h2⟩ := hgo s.length (by simp [Builtin.len_, hd, goInt, hsz])
      exact ⟨r, _, hk hs, h1, h2⟩
    · rename_i e sz l htk
      cases hx; rename_i hx
      have := tdOf_slice (htd.trans htk); subst this
      cases hx with
      | empty sz b c hc =>
        obtain ⟨r, h1, h2⟩ := hgo 0 (by simp [Builtin.len_, hd, goInt])
        exact ⟨r, _, hk (by simp), h1, h2⟩
      | list sz l a c vs hl hc hok hsz hone hcell hr =>
        obtain ⟨r, h1, h2⟩ := hgo l.length (by simp [Builtin.len_, hd, goInt])
        exact ⟨r, _, hk (Nat.le_trans hl hc), h1, h2⟩
    · rename_i e htk
      cases hx; rename_i hx; cases hx
      have := tdOf_slice (htd.trans htk); subst this
      obtain ⟨r, h1, h2⟩ := hgo 0 (by simp [Builtin.len_, hd, goInt])
      exact ⟨r, _, hk, h1, h2⟩
    · rename_i e b ver sz htk
      have := tdOf_slice (htd.trans htk); subst this
      split at hk
      · rename_i e2 sz2 l ver' hget
        obtain ⟨hve, hk⟩ := hk
        cases hx with
        | own b ver sz m a c hb' hn hc hv h0 hr =>
        have ho := hh.obj b
        rw [hget] at ho
        obtain ⟨bd, C, hbd, hv2, hpos, _, hl, hlen, hrow⟩ := ho
        obtain ⟨_, _, h5⟩ := hr bd hbd (by omega)
        have h6 : m = l.length := by omega
        subst h6
        obtain ⟨r, h1, h2⟩ := hgo l.length (by simp [Builtin.len_, hd, goInt])
        exact ⟨r, _, hk (Nat.le_trans hn hc), h1, h2⟩
      · rename_i e1 e2 sz2 ll ver' hole hget
        obtain ⟨hve, hk⟩ := hk
        cases hx with
        | own b ver sz m a c hb' hn hc hv h0 hr =>
        have ho := hh.obj b
        rw [hget] at ho
        obtain ⟨bd, C, S, hbd, hv2, hpos, _, hl, hlen, _⟩ := ho
        obtain ⟨_, _, h5⟩ := hr bd hbd (by omega)
        have h6 : m = ll.length := by omega
        subst h6
        obtain ⟨r, h1, h2⟩ := hgo ll.length (by simp [Builtin.len_, hd, goInt])
        exact ⟨r, _, hk (Nat.le_trans hn hc), h1, h2⟩
      · cases hk
    · rename_i e b ver sz off m htk
      cases hx with
      | cut b ver sz off m a c hb hn hc hv h0 hr =>
      have := tdOf_slice (htd.trans htk); subst this
      obtain ⟨r, h1, h2⟩ := hgo m (by simp [Builtin.len_, hd, goInt])
      exact ⟨r, _, hk (Nat.le_trans hn hc), h1, h2⟩
    · rename_i m e htk
      have := tdOf_array (htd.trans htk); subst this
      obtain ⟨r, h1, h2⟩ := hgo m (by simp [Builtin.len_, hd, goInt])
      exact ⟨r, _, hk, h1, h2⟩
    · rename_i e htk
      have := tdOf_ptr (htd.trans htk); subst this
      split at hk
      · rename_i ye hye
        obtain ⟨d2, hd2, htd2⟩ := run_und hT hye w
        split at hk
        · rename_i m e2 htk2
          have := tdOf_array (htd2.trans htk2); subst this
          obtain ⟨r, h1, h2⟩ := hgo m (by simp [Builtin.len_, hd, hd2, goInt])
          exact ⟨r, _, hk, h1, h2⟩
        · cases hk
      · cases hk
    · rename_i k e htk
      cases hx; rename_i hx; cases hx
      have := tdOf_map (htd.trans htk); subst this
      obtain ⟨r, h1, h2⟩ := hgo 0 (by simp [Builtin.len_, hd, goInt])
      exact ⟨r, _, hk, h1, h2⟩
    · rename_i k e b htk
      have := tdOf_map (htd.trans htk); subst this
      split at hk
      · rename_i es clock hget
        cases hx with
        | map b m hb hr =>
        have ho := hh.obj b
        rw [hget] at ho
        obtain ⟨bd, E, hbd, hv, hc, hl, hcell⟩ := ho
        have := hr bd hbd hv; subst this
        obtain ⟨r, h1, h2⟩ := hgo es.length (by simp [Builtin.len_, hd, goInt, getObj, Sem.run, hc, hl])
        exact ⟨r, _, hk, h1, h2⟩
      · cases hk
    · cases hk
  · cases hk

omit hT in
theorem minmax_sound {mx : Bool} {x y : AV} {K : AV → Prop} (hk : minmax mx x y K) {u v : Value} (hx : ARel n μ w x u) (hy : ARel n μ w y v) :
    ∃ r z, K z ∧ (cond mx (Builtin.max2 u v) (Builtin.min2 u v)).run P w = .ok r w ∧ ARel n μ w z r := by
  unfold minmax at hk
  split at hk
  · cases hx; cases hy; rename_i hx hy; cases hx; cases hy
    refine ⟨_, _, hk, ?_, .d _ _ (.int _ _)⟩
    cases mx <;> rfl
  · rename_i a b
    cases hx; cases hy; rename_i hx hy; cases hx; cases hy; rename_i h1 h2
    refine ⟨.string ⟨(cond mx (if Op.bytesLess a b then b else a) (if (Op.bytesLess a b || a == b) then a else b)).toArray⟩, _, hk, ?_, .d _ _ (.str _ ?_)⟩
    · cases mx
      · cases hb : (Op.bytesLess a b || a == b) <;> simp [Builtin.min2, Op.stringOp, ByteArray.toList_mk, asBool, hb]
      · cases hb : Op.bytesLess a b <;> simp [Builtin.max2, Op.stringOp, ByteArray.toList_mk, asBool, hb]
    · cases mx <;> simp only [cond_true, cond_false] <;> split <;> assumption
  · cases hk

omit hT in
theorem minmaxs_sound {mx : Bool} : ∀ (r : List AV) (x : AV) {K : AV → Prop}, minmaxs mx x r K → ∀ (u : Value) (us : List Value), ARel n μ w x u → us.length = r.length → (∀ (i : Nat) (c : AV) (v : Value), r[i]? = some c → us[i]? = some v → ARel n μ w c v) →
    ∃ q z, K z ∧ (us.foldlM (fun a b => cond mx (Builtin.max2 a b) (Builtin.min2 a b)) u).run P w = .ok q w ∧ ARel n μ w z q
  | [], x, K, hk, u, us, hx, hl, _ => by
    obtain rfl : us = [] := List.eq_nil_of_length_eq_zero (by simpa using hl)
    exact ⟨u, x, hk, rfl, hx⟩
  | y :: r, x, K, hk, u, us, hx, hl, hr => by
    cases us with
    | nil => simp at hl
    | cons v us =>
      obtain ⟨q, z, h1, h2, h3⟩ := minmax_sound (P := P) hk hx (hr 0 y v rfl rfl)
      obtain ⟨q', z', h4, h5, h6⟩ := minmaxs_sound r z h1 q us h3 (by simpa using hl) (fun i c v h1 h2 => hr (i + 1) c v (by simpa using h1) (by simpa using h2))
      exact ⟨q', z', h4, by rw [List.foldlM_cons, Sem.run_bind, h2]; exact h5, h6⟩
end
end Go.Pm
end
section
/- Cuts, and the whole of the operations that leave memory as it is. -/
namespace Go.Pm

section
variable {P : Program} {T : Tab} (hT : TabOk P T) {n : Nat} {μ : Mu} {w : World}

theorem bytes_extract (s : List UInt8) (a b : Nat) : (⟨s.toArray⟩ : ByteArray).extract a b = ⟨((s.drop a).take (b - a)).toArray⟩ := by
  rw [Lib.extract_eq]

/-- A part of a slice that is only read. -/
theorem list_part {ok : Nat → Prop} {sz : Nat} {q : List D} {a : Option Addr} {c : Nat} (h : DRel ok w (.list sz q) (.slice a q.length c)) (l r : Nat) (hlr : l ≤ r) (hr : r ≤ q.length) :
    DRel ok w (.list sz ((q.take r).drop l)) (.slice (if c = l then a else a.map (·.add (l * sz))) (r - l) (c - l)) := by
  cases h with
  | empty sz b c hc =>
    have h1 : r = 0 := by simpa using hr
    subst h1
    have h2 : l = 0 := by omega
    subst h2
    simp only [List.take_zero, List.drop_nil, Nat.sub_self]
    exact .empty sz _ _ (by omega)
  | list sz q a c vs hl hc hok hsz hone hcell hrr =>
    have hlen : ((q.take r).drop l).length = r - l := by simp; omega
    by_cases hcl : c = l
    · have : (q.take r).drop l = [] := List.eq_nil_of_length_eq_zero (by omega)
      rw [this, if_pos hcl, show r - l = 0 by omega]
      exact .empty sz _ _ (by omega)
    · rw [if_neg hcl]
      have hget : ∀ (i : Nat) (x : D), ((q.take r).drop l)[i]? = some x → q[l + i]? = some x := by
        intro i x hi
        rw [List.getElem?_drop, List.getElem?_take] at hi
        split at hi
        · exact hi
        · cases hi
      have := DRel.list (ok := ok) (w := w) sz ((q.take r).drop l) (a.add (l * sz)) (c - l) (fun i j => vs (l + i) j) (by omega) (by omega)
        (fun i x j u h1 h2 => by rw [add_block]; exact hok _ _ _ _ (hget i x h1) h2)
        (fun i x h1 => hsz _ _ (hget i x h1))
        (fun i x j u h1 h2 => hone _ _ _ _ (hget i x h1) h2)
        (fun i x j u h1 h2 => by rw [add_add, ← Nat.add_assoc, ← Nat.add_mul]; exact hcell _ _ _ _ (hget i x h1) h2)
        (fun i x j u h1 h2 => hrr _ _ _ _ (hget i x h1) h2)
      rw [hlen] at this
      exact this

include hT in
theorem run_slice_list {t e : TypeId} {y ye : Ty} (hy : T t = some y) (htd : y.td = .slice e) (hye : T e = some ye) (a : Option Addr) (m c : Nat) (lo hi : Option Value) (l r : Nat)
    (hlo : lo = none ∧ l = 0 ∨ ∃ k, lo = some (.int k l)) (hhi : hi = none ∧ r = m ∨ ∃ k, hi = some (.int k r)) (hlr : l ≤ r) (hr : r ≤ c) (hm : m ≤ c) :
    (Instr.sliceAt t (.slice a m c) lo hi none).run P w = .ok (.slice (if c = l then a else a.map (·.add (l * ye.size))) (r - l) (c - l)) w := by
  obtain ⟨d, hd, htd'⟩ := run_und hT hy w
  have := tdOf_slice (htd'.trans htd); subst this
  have hs := run_size hT hye w
  rcases hlo with ⟨rfl, rfl⟩ | ⟨k1, rfl⟩ <;> rcases hhi with ⟨rfl, rfl⟩ | ⟨k2, rfl⟩
  · simp [Instr.sliceAt, hd, Instr.slice, Instr.sliceBounds, hs]
  · simp [Instr.sliceAt, hd, Instr.slice, Instr.sliceBounds, Instr.sliceBound, asIntOf, hs, hr]
  · simp [Instr.sliceAt, hd, Instr.slice, Instr.sliceBounds, Instr.sliceBound, asIntOf, hs, hlr]
  · simp [Instr.sliceAt, hd, Instr.slice, Instr.sliceBounds, Instr.sliceBound, asIntOf, hs, hr, hlr]

include hT in
theorem run_slice_str {t : TypeId} {y : Ty} (hy : T t = some y) (htd : y.td = .str) (s : List UInt8) (lo hi : Option Value) (l r : Nat)
    (hlo : lo = none ∧ l = 0 ∨ ∃ k, lo = some (.int k l)) (hhi : hi = none ∧ r = s.length ∨ ∃ k, hi = some (.int k r)) (hlr : l ≤ r) (hr : r ≤ s.length) :
    (Instr.sliceAt t (.string ⟨s.toArray⟩) lo hi none).run P w = .ok (.string ⟨((s.take r).drop l).toArray⟩) w := by
  obtain ⟨d, hd, htd'⟩ := run_und hT hy w
  have := tdOf_str (htd'.trans htd); subst this
  have hsz : (⟨s.toArray⟩ : ByteArray).size = s.length := by simp [ByteArray.size]
  have hx : (⟨s.toArray⟩ : ByteArray).extract l r = ⟨((s.take r).drop l).toArray⟩ := by
    rw [bytes_extract, List.drop_take]
  rcases hlo with ⟨rfl, rfl⟩ | ⟨k1, rfl⟩ <;> rcases hhi with ⟨rfl, rfl⟩ | ⟨k2, rfl⟩
  · have hx' := hx; rw [show s.length = (⟨s.toArray⟩ : ByteArray).size from hsz.symm] at hx'
    simp [Instr.sliceAt, hd, Instr.slice, Instr.sliceBounds]
  · simp [Instr.sliceAt, hd, Instr.slice, Instr.sliceBounds, Instr.sliceBound, asIntOf, hsz, hr, hx]
  · simp [Instr.sliceAt, hd, Instr.slice, Instr.sliceBounds, Instr.sliceBound, asIntOf, hsz, hlr, hx]
  · simp [Instr.sliceAt, hd, Instr.slice, Instr.sliceBounds, Instr.sliceBound, asIntOf, hsz, hr, hlr, hx]

theorem int_val {μ : Mu} {x : Option AV} {v : Option Value} (hv : ∀ c, x = some c → ∃ u, v = some u ∧ ARel n μ w c u) {k : IntKind} {m : Int} (hx : x = some (.d (.int k m))) (h0 : 0 ≤ m) : ∃ k, v = some (.int k (m.toNat : Int)) := by
  obtain ⟨u, rfl, hu⟩ := hv _ hx
  cases hu; rename_i hu; cases hu
  exact ⟨k, by rw [Int.toNat_of_nonneg h0]⟩

include hT in
theorem aslice_sound {t : TypeId} {x : AV} {lo hi : Option AV} {K : AV → Prop} (hk : aslice T t x lo hi K) {u : Value} {lv hv : Option Value} (hx : ARel n μ w x u)
    (hlo : ∀ c, lo = some c → ∃ u, lv = some u ∧ ARel n μ w c u) (hlo0 : lo = none → lv = none) (hhi : ∀ c, hi = some c → ∃ u, hv = some u ∧ ARel n μ w c u) (hhi0 : hi = none → hv = none) :
    ∃ r z, K z ∧ (Instr.sliceAt t u lv hv none).run P w = .ok r w ∧ ARel n μ w z r := by
  unfold aslice at hk
  split at hk
  · rename_i y hy
    have strs : ∀ (s : List UInt8) (l r : Nat), y.td = .str → ARel n μ w (.d (.str s)) u → (lv = none ∧ l = 0 ∨ ∃ k, lv = some (.int k l)) → (hv = none ∧ r = s.length ∨ ∃ k, hv = some (.int k r)) → l ≤ r → r ≤ s.length →
        K (.d (.str ((s.take r).drop l))) → ∃ r z, K z ∧ (Instr.sliceAt t u lv hv none).run P w = .ok r w ∧ ARel n μ w z r := by
      intro s l r htd hx h1 h2 h3 h4 h5
      cases hx; rename_i hx; cases hx; rename_i hs
      exact ⟨_, _, h5, run_slice_str hT hy htd s lv hv l r h1 h2 h3 h4, .d _ _ (.str _ (by simp; omega))⟩
    have lists : ∀ (e : TypeId) (sz : Nat) (q : List D) (l r : Nat), y.td = .slice e → ARel n μ w (.d (.list sz q)) u → (lv = none ∧ l = 0 ∨ ∃ k, lv = some (.int k l)) → (hv = none ∧ r = q.length ∨ ∃ k, hv = some (.int k r)) → l ≤ r → r ≤ q.length →
        (match T e with
          | some ye => cond (Nat.beq ye.size sz) (K (.d (.list sz ((q.take r).drop l)))) False
          | none => False) → ∃ r z, K z ∧ (Instr.sliceAt t u lv hv none).run P w = .ok r w ∧ ARel n μ w z r := by
      intro e sz q l r htd hx h1 h2 h3 h4 h5
      split at h5
      · rename_i ye hye
        cases hb : Nat.beq ye.size sz with
        | false => rw [hb] at h5; cases h5
        | true =>
          rw [hb] at h5
          have hsz := Nat.eq_of_beq_eq_true hb
          cases hx; rename_i hx
          have hform : ∃ a c, u = .slice a q.length c ∧ q.length ≤ c := by
            cases hx with
            | empty sz b c hc => exact ⟨_, _, rfl, by simp⟩
            | list sz q a c vs hl hc hok hsz hone hcell hrr => exact ⟨_, _, rfl, hl⟩
          obtain ⟨a, c, rfl, hqc⟩ := hform
          refine ⟨_, _, h5, run_slice_list hT hy htd hye a q.length c lv hv l r h1 h2 h3 (by omega) hqc, .d _ _ ?_⟩
          rw [hsz]
          exact list_part hx l r h3 h4
      · cases h5
    split at hk
    · rename_i s htd
      exact strs s 0 s.length htd hx (.inl ⟨hlo0 rfl, rfl⟩) (.inl ⟨hhi0 rfl, rfl⟩) (by omega) (by omega) (by simpa using hk)
    · rename_i s k l htd
      obtain ⟨⟨h0, h1⟩, hk⟩ := hk
      exact strs s l.toNat s.length htd hx (.inr (int_val hlo rfl h0)) (.inl ⟨hhi0 rfl, rfl⟩) (by omega) (by omega) (by simpa using hk)
    · rename_i s k r htd
      obtain ⟨⟨h0, h1⟩, hk⟩ := hk
      exact strs s 0 r.toNat htd hx (.inl ⟨hlo0 rfl, rfl⟩) (.inr (int_val hhi rfl h0)) (by omega) (by omega) (by simpa using hk)
    · rename_i s k l k' r htd
      obtain ⟨⟨h0, h1, h2⟩, hk⟩ := hk
      exact strs s l.toNat r.toNat htd hx (.inr (int_val hlo rfl h0)) (.inr (int_val hhi rfl (by omega))) (by omega) (by omega) hk
    · rename_i e sz q htd
      refine lists e sz q 0 q.length htd hx (.inl ⟨hlo0 rfl, rfl⟩) (.inl ⟨hhi0 rfl, rfl⟩) (by omega) (by omega) ?_
      rw [List.take_length, List.drop_zero]; exact hk
    · rename_i e sz q k l htd
      split at hk
      · rename_i ye hye
        cases hb : Nat.beq ye.size sz with
        | false => rw [hb] at hk; cases hk
        | true =>
          rw [hb] at hk
          obtain ⟨⟨h0, h1⟩, hk⟩ := hk
          refine lists e sz q l.toNat q.length htd hx (.inr (int_val hlo rfl h0)) (.inl ⟨hhi0 rfl, rfl⟩) (by omega) (by omega) ?_
          rw [hye]; simp only [hb, cond_true]; simpa using hk
      · cases hk
    · rename_i e sz q k r htd
      split at hk
      · rename_i ye hye
        cases hb : Nat.beq ye.size sz with
        | false => rw [hb] at hk; cases hk
        | true =>
          rw [hb] at hk
          obtain ⟨⟨h0, h1⟩, hk⟩ := hk
          refine lists e sz q 0 r.toNat htd hx (.inl ⟨hlo0 rfl, rfl⟩) (.inr (int_val hhi rfl h0)) (by omega) (by omega) ?_
          rw [hye]; simp only [hb, cond_true]; simpa using hk
      · cases hk
    · rename_i e sz q k l k' r htd
      split at hk
      · rename_i ye hye
        cases hb : Nat.beq ye.size sz with
        | false => rw [hb] at hk; cases hk
        | true =>
          rw [hb] at hk
          obtain ⟨⟨h0, h1, h2⟩, hk⟩ := hk
          refine lists e sz q l.toNat r.toNat htd hx (.inr (int_val hlo rfl h0)) (.inr (int_val hhi rfl (by omega))) (by omega) (by omega) ?_
          rw [hye]; simp only [hb, cond_true]; exact hk
      · cases hk
    · cases hk
  · cases hk

/-! ### All of them -/
include hT in
theorem apure_sound {N : Nat} {s : St} {a : Act} (hs : SRel N s μ a w) (o : Oper) {K : AV → Prop} (hk : apure T s o.op K) :
    ∃ r z, K z ∧ (execOp a.eval o).run P w = .ok (.value r) w ∧ ARel s.hp.nx μ w z r := by
  have E := fun x => ev_rel hs x
  have lift : ∀ (q : Sem Value), (execOp a.eval o = do pure (.value (← q))) → (∃ r z, K z ∧ q.run P w = .ok r w ∧ ARel s.hp.nx μ w z r) → ∃ r z, K z ∧ (execOp a.eval o).run P w = .ok (.value r) w ∧ ARel s.hp.nx μ w z r := by
    intro q hq ⟨r, z, h1, h2, h3⟩
    exact ⟨r, z, h1, by rw [hq, Sem.run_bind, h2]; rfl, h3⟩
  unfold apure at hk
  split at hk
  · rename_i x ho
    exact ⟨a.eval x, _, hk, by simp only [execOp, ho]; rfl, E x⟩
  · rename_i x ho
    exact ⟨a.eval x, _, hk, by simp only [execOp, ho]; rfl, E x⟩
  · rename_i c p q ho
    have hc := E c
    split at hk
    · rename_i he
      rw [he] at hc
      have : a.eval c = .bool true := asB_rel hc rfl
      exact ⟨a.eval p, _, hk, by simp only [execOp, ho, this]; rfl, E p⟩
    · rename_i he
      rw [he] at hc
      have : a.eval c = .bool false := asB_rel hc rfl
      exact ⟨a.eval q, _, hk, by simp only [execOp, ho, this]; rfl, E q⟩
    · rename_i b he
      rw [he] at hc
      have hb : a.eval c = .bool b := asB_rel hc rfl
      split at hk
      · rename_i p' q' hp hq
        have h1 := asB_rel (E p) hp
        have h2 := asB_rel (E q) hq
        refine ⟨.bool (cond b p' q'), _, hk, ?_, .d _ _ (.bool _)⟩
        simp only [execOp, ho, hb, h1, h2]
        cases b <;> rfl
      · cases b with
        | true => exact ⟨a.eval p, _, hk.1 rfl, by simp only [execOp, ho, hb]; rfl, E p⟩
        | false => exact ⟨a.eval q, _, hk.2 rfl, by simp only [execOp, ho, hb]; rfl, E q⟩
    · cases hk
  · rename_i op t x y ty ho
    refine lift _ (by simp only [execOp, ho]) (abin_sound hT hk (E x) (E y) x y ?_)
    intro hc
    split at hc
    · exact .inl ⟨_, rfl⟩
    · exact .inr ⟨_, rfl⟩
    · cases hc
  · rename_i op t x ho
    exact lift _ (by simp only [execOp, ho]) (aunOp_sound hk (E x))
  · rename_i src dst x ho
    exact lift _ (by simp only [execOp, ho]) (aconv_sound hT hk (E x))
  · rename_i t x ho
    split at hk
    · rename_i y hy
      obtain ⟨d, hd, htd⟩ := run_und hT hy w
      have hrun : (∀ b, y.td ≠ .iface b) → (Instr.makeInterface t (a.eval x)).run P w = .ok (.iface t (a.eval x)) w := by
        intro hne
        unfold Instr.makeInterface
        rw [Sem.run_bind, hd]
        cases d <;> first | rfl | (exact absurd htd.symm (hne _))
      split at hk
      · cases hk
      · rename_i hne
        split at hk
        · rename_i dd hdd
          exact lift _ (by simp only [execOp, ho]) ⟨_, _, hk, hrun hne, .d _ _ (.iface _ _ _ (toD_rel (E x) hdd))⟩
        · exact lift _ (by simp only [execOp, ho]) ⟨_, _, hk, hrun hne, .iface _ _ _ (E x)⟩
    · cases hk
  · rename_i f first caps ho
    split at hk
    · rename_i hf
      have h0 : first = #[] := by simpa using hf
      subst h0
      refine ⟨.func (.func f) #[] (caps.map a.eval), _, hk, by simp [execOp, ho, Instr.makeFunc], ?_⟩
      have : caps.map a.eval = (caps.toList.map a.eval).toArray := Array.ext' (Array.toList_map ..)
      rw [this]
      refine .fn f _ _ (by simp) (fun i c v hc hv => ?_)
      rw [List.getElem?_map, Option.map_eq_some_iff] at hc hv
      obtain ⟨x, hx, rfl⟩ := hc
      obtain ⟨x', hx', rfl⟩ := hv
      rw [hx] at hx'; cases hx'
      exact E x
    · cases hk
  · rename_i t x f ho
    exact lift _ (by simp only [execOp, ho]) (afield_sound hT hk (E x))
  · rename_i x i ho
    have hx := E x
    split at hk
    · rename_i vs he
      rw [he] at hx
      split at hk
      · rename_i v hv
        obtain ⟨u, hu⟩ : ∃ u, a.eval x = u := ⟨_, rfl⟩
        rw [hu] at hx
        cases hx with
        | tup cs us hl hr =>
        have hi : i < us.length := by have := (List.getElem?_eq_some_iff.1 hv).1; omega
        exact lift (Instr.extract (.tuple us.toArray) i) (by simp only [execOp, ho, hu]) ⟨us[i], v, hk, by simp [Instr.extract, hi], hr i v _ hv (List.getElem?_eq_getElem hi)⟩
      · cases hk
    · cases hk
  · rename_i x ho
    have hx := E x
    split at hk
    · rename_i cs hcs
      rw [hcs] at hx
      generalize hu : a.eval x = u at hx
      cases hx with
      | d _ _ hd =>
      cases hd with
      | ptr _ p vs hok hone hcell hr hb =>
      refine ⟨a.eval x, _, hk, ?_, ?_⟩
      · simp only [execOp, ho, hu]; rfl
      · rw [hu]; exact .rd cs p vs (fun _ _ _ => hok) hone hcell hr
    rename_i hnp
    cases hb : solidPtr (ev s x) with
    | false => rw [hb] at hk; cases hk
    | true =>
      rw [hb] at hk
      refine ⟨a.eval x, _, hk, ?_, hx⟩
      have hv : (∃ p, a.eval x = .pointer (some p)) ∨ (∃ f c, a.eval x = .func (.func f) #[] c) ∨ (∃ k, a.eval x = .func (.yield k) #[] #[]) ∨ ∃ t u, a.eval x = .iface t u := by
        generalize a.eval x = u at hx
        generalize ev s x = z at hx hb
        cases hx <;> simp [solidPtr] at hb
        · rename_i h; cases h <;> simp at hb
          · exact .inr (.inl ⟨_, _, rfl⟩)
          · exact .inr (.inr (.inr ⟨_, _, rfl⟩))
        · exact .inl ⟨_, rfl⟩
        · exact .inl ⟨_, rfl⟩
        · exact .inl ⟨_, rfl⟩
        · exact .inr (.inl ⟨_, _, rfl⟩)
        · exact .inr (.inr (.inl ⟨_, rfl⟩))
        · exact .inr (.inr (.inr ⟨_, _, rfl⟩))
      rcases hv with ⟨p, hv⟩ | ⟨f, c, hv⟩ | ⟨k, hv⟩ | ⟨t, u, hv⟩ <;> simp only [execOp, ho, hv] <;> rfl
  · rename_i t x i ho
    exact lift _ (by simp only [execOp, ho]) (aindex_sound hT hk (E x) (E i))
  · rename_i t x i ho
    exact lift _ (by simp only [execOp, ho]) (aindexAddr_sound hT hs.hp hk (E x) (E i))
  · rename_i t x f ho
    exact lift _ (by simp only [execOp, ho]) (afieldAddr_sound hT hk (E x))
  · rename_i t x ho
    exact lift _ (by simp only [execOp, ho]) (aload_sound hT hs.hp hk (E x))
  · rename_i t x lo hi ho
    refine lift _ (by simp only [execOp, ho]; rfl) (aslice_sound hT hk (E x) ?_ ?_ ?_ ?_)
    · intro c hc; cases lo <;> simp at hc; subst hc; exact ⟨_, rfl, E _⟩
    · intro hc; cases lo <;> simp at hc; rfl
    · intro c hc; cases hi <;> simp at hc; subst hc; exact ⟨_, rfl, E _⟩
    · intro hc; cases hi <;> simp at hc; rfl
  · rename_i c ho
    have args : ∀ (l : List Operand), (∀ (i : Nat) (q : AV) (v : Value), (l.map (ev s))[i]? = some q → (l.map a.eval)[i]? = some v → ARel s.hp.nx μ w q v) := by
      intro l i q v h1 h2
      rw [List.getElem?_map, Option.map_eq_some_iff] at h1 h2
      obtain ⟨x, hx, rfl⟩ := h1
      obtain ⟨x', hx', rfl⟩ := h2
      rw [hx] at hx'; cases hx'
      exact E x
    split at hk
    · rename_i hcal
      split at hk
      · rename_i t ts x xs h1 h2
        have h1' : c.argTypes = (t :: ts).toArray := by rw [← h1]
        have h2' : c.args = (x :: xs).toArray := by rw [← h2]
        obtain ⟨r, z, h3, h4, h5⟩ := alen_sound hT hs.hp hk (E x) o.type ts (xs.map a.eval)
        refine ⟨r, z, h3, ?_, h5⟩
        simp only [execOp, ho, resolve, hcal, Sem.run_bind, Sem.run_pure, Result.andThen_ok, invoke, builtin, h1', h2']
        have : Array.map a.eval (x :: xs).toArray = (a.eval x :: xs.map a.eval).toArray := by simp
        rw [this, h4]; rfl
      · cases hk
    · rename_i hcal
      split at hk
      · rename_i x xs h2
        have h2' : c.args = (x :: xs).toArray := by rw [← h2]
        obtain ⟨r, z, h3, h4, h5⟩ := minmaxs_sound (P := P) (xs.map (ev s)) (ev s x) hk (a.eval x) (xs.map a.eval) (E x) (by simp) (args xs)
        refine ⟨r, z, h3, ?_, h5⟩
        simp only [execOp, ho, resolve, hcal, Sem.run_bind, Sem.run_pure, Result.andThen_ok, invoke, builtin, h2', Builtin.max_]
        have : (Array.map a.eval (x :: xs).toArray).toList = a.eval x :: xs.map a.eval := by simp
        rw [this]
        simp only [cond_true] at h4
        rw [show (fun a b => Builtin.max2 a b) = Builtin.max2 from rfl] at h4
        simp only [h4, Result.andThen_ok]
      · cases hk
    · rename_i hcal
      split at hk
      · rename_i x xs h2
        have h2' : c.args = (x :: xs).toArray := by rw [← h2]
        obtain ⟨r, z, h3, h4, h5⟩ := minmaxs_sound (P := P) (xs.map (ev s)) (ev s x) hk (a.eval x) (xs.map a.eval) (E x) (by simp) (args xs)
        refine ⟨r, z, h3, ?_, h5⟩
        simp only [execOp, ho, resolve, hcal, Sem.run_bind, Sem.run_pure, Result.andThen_ok, invoke, builtin, h2', Builtin.min_]
        have : (Array.map a.eval (x :: xs).toArray).toList = a.eval x :: xs.map a.eval := by simp
        rw [this]
        simp only [cond_false] at h4
        rw [show (fun a b => Builtin.min2 a b) = Builtin.min2 from rfl] at h4
        simp only [h4, Result.andThen_ok]
      · cases hk
    · cases hk
  · cases hk
end
end Go.Pm
end
section
/- The operations that write or make memory, first part: variables, rows, structs. -/
namespace Go.Pm

/-- What an operation that writes or makes memory leaves. -/
def HOut (n0 : Nat) (μ : Mu) (w : World) (rs : Result Next) (K : AV → Heap → Prop) : Prop :=
  ∃ x h' μ' w', K x h' ∧ HRel h' μ' w' ∧ Ext n0 μ w μ' w' ∧ n0 ≤ h'.nx ∧ ((∃ r, rs = .ok (.value r) w' ∧ ARel h'.nx μ' w' x r) ∨ (rs = .ok .skip w' ∧ x = .junk))

/-- A list with a part of it replaced. -/
def spl {α : Type} (l : List α) (off : Nat) (xs : List α) : List α := l.take off ++ xs ++ l.drop (off + xs.length)

theorem spl_length {α : Type} (l : List α) (off : Nat) (xs : List α) (h : off + xs.length ≤ l.length) : (spl l off xs).length = l.length := by
  simp [spl]; omega
theorem spl_get {α : Type} (l : List α) (off : Nat) (xs : List α) (h : off + xs.length ≤ l.length) (j : Nat) :
    (spl l off xs)[j]? = if off ≤ j ∧ j < off + xs.length then xs[j - off]? else l[j]? := by
  have hm : min off l.length = off := by omega
  unfold spl
  rw [List.getElem?_append, List.getElem?_append]
  simp only [List.length_append, List.length_take, hm]
  by_cases h1 : j < off
  · rw [if_pos (by omega), if_pos h1, if_neg (by omega), List.getElem?_take, if_pos h1]
  · by_cases h2 : j < off + xs.length
    · rw [if_pos h2, if_neg h1, if_pos (by omega)]
    · rw [if_neg h2, if_neg (by omega), List.getElem?_drop]
      congr 1; omega

/-- As pure data, each. -/
def toDs : List AV → Option (List D)
  | [] => some []
  | x :: r => match toD x, toDs r with
    | some y, some q => some (y :: q)
    | _, _ => none
theorem toDs_len : ∀ {cs : List AV} {l : List D}, toDs cs = some l → l.length = cs.length
  | [], l, h => by simp [toDs] at h; subst h; rfl
  | x :: r, l, h => by
    simp only [toDs] at h
    split at h
    · rename_i y q h1 h2
      cases h
      simp [toDs_len h2]
    · cases h
theorem toDs_get : ∀ {cs : List AV} {l : List D}, toDs cs = some l → ∀ (i : Nat) (y : D), l[i]? = some y → ∃ x, cs[i]? = some x ∧ toD x = some y
  | [], l, h, i, y, hi => by simp [toDs] at h; subst h; simp at hi
  | x :: r, l, h, i, y, hi => by
    simp only [toDs] at h
    split at h
    · rename_i y' q h1 h2
      cases h
      cases i with
      | zero => simp at hi; subst hi; exact ⟨x, rfl, h1⟩
      | succ i => simp at hi; simpa using toDs_get h2 i y hi
    · cases h

def sized (sz : Nat) : List D → Bool
  | [] => true
  | x :: r => Nat.beq x.cells.length sz && sized sz r
theorem sized_get {sz : Nat} : ∀ {l : List D}, sized sz l = true → ∀ (i : Nat) (x : D), l[i]? = some x → x.cells.length = sz
  | [], _, i, x, h => by simp at h
  | y :: r, hs, i, x, h => by
    simp only [sized, Bool.and_eq_true] at hs
    cases i with
    | zero => simp at h; subst h; exact Nat.eq_of_beq_eq_true hs.1
    | succ i => simp at h; exact sized_get hs.2 i x h

theorem AV.cells_d (d : D) : AV.cells (.d d) = d.cells.map .d := by cases d <;> rfl
/-- A datum's cells stand for the value's cells. -/
theorem DRel.cells {ok : Nat → Prop} {w : World} {d : D} {u : Value} (h : DRel ok w d u) : u.cells.size = d.cells.length ∧
    ∀ (j : Nat) (c : D), d.cells[j]? = some c → c.one = true ∧ ∃ q, u.cells[j]? = some q ∧ DRel ok w c q := by
  have one : ∀ {x : D} {v : Value}, DRel ok w x v → x.one = true → x.cells = [x] → v.cells = #[v] → v.cells.size = x.cells.length ∧ ∀ (j : Nat) (c : D), x.cells[j]? = some c → c.one = true ∧ ∃ q, v.cells[j]? = some q ∧ DRel ok w c q := by
    intro x v h h0 h1 h2
    rw [h1, h2]
    refine ⟨rfl, fun j c hc => ?_⟩
    cases j with
    | zero => simp at hc; subst hc; exact ⟨h0, v, rfl, h⟩
    | succ j => simp at hc
  cases hd : h with
  | agg cs vs hl ho h1 =>
    refine ⟨by simp [D.cells, Value.cells, hl], fun j c hc => ⟨ho j c hc, ?_⟩⟩
    have hj : j < vs.length := by have := (List.getElem?_eq_some_iff.1 hc).1; simp [D.cells] at this; omega
    exact ⟨vs[j], by simp [Value.cells], h1 j c _ hc (List.getElem?_eq_getElem hj)⟩
  | _ => exact one h rfl rfl (cells_one (h.oneCell rfl))

def astore (T : Tab) (h : Heap) (t : TypeId) (x v : AV) (K : AV → Heap → Prop) : Prop :=
  match T t with
  | some y =>
    match x with
    | .ptr b off => match h.get b with
      | .var cs ty => cond (AV.solid v && Nat.beq (AV.cells v).length y.size && Nat.ble (off + y.size) cs.length)
          (forceL (spl cs off (AV.cells v)) fun cs' => K .junk (h.set b (.var cs' ty))) False
      | .dvar m f ty => match toD v with
        | some d => cond (isAggT y.td) ((d.cells.length = y.size ∧ off + y.size ≤ m) ∧ K .junk (h.set b (.dvar m (fun j => cond (Nat.ble off j && Nat.blt j (off + y.size)) (d.cells.getD (j - off) .nilp) (f j)) ty)))
            (cond (Nat.beq d.cells.length 1 && Nat.beq y.size 1 && d.one) (off < m ∧ K .junk (h.set b (.dvar m (fun j => cond (Nat.beq j off) d (f j)) ty))) False)
        | none => False
      | _ => False
    | .rptr b ver sz i off => match h.get b with
      | .row e sz' l ver' => match toD v with
        | some d => cond (Nat.beq sz sz' && Nat.beq d.cells.length y.size && Nat.beq y.size sz && Nat.beq off 0)
            ((ver = ver' ∧ i < l.length) ∧ K .junk (h.set b (.row e sz' (l.set i d) ver'))) False
        | none => False
      | .nest e e2 sz2 ll ver' hole => match hole, AV.cells v with
        | some (j, _), [c] => cond (AV.solid v && Nat.beq y.size 1 && Nat.beq sz 1 && Nat.beq off 0)
            ((ver = ver' ∧ i = j ∧ i < ll.length) ∧ K .junk (h.set b (.nest e e2 sz2 ll ver' (some (j, c))))) False
        | _, _ => False
      | _ => False
    | _ => False
  | none => False

theorem storeCells_fz {P : Program} (g o : Nat) (t : TypeId) (fz : Nat × Nat) : ∀ (vs : List Value) (i : Nat) (cur : Array Value) (w : World), w.heap[g]? = some (.cells cur t fz) → (∀ i, i < cur.size → ¬ (fz.1 ≤ i ∧ i < fz.2)) → o + i + vs.length ≤ cur.size → (∀ v ∈ vs, v.oneCell' = true) →
    (storeCells ⟨g, o, none⟩ vs i).run P w = .ok () (w.setRow g (cur.toList.take (o + i) ++ vs ++ cur.toList.drop (o + i + vs.length)).toArray)
  | [], i, cur, w, hg, _, _, _ => by
    simp only [storeCells, List.append_nil, List.length_nil, Nat.add_zero, List.take_append_drop, Array.toArray_toList]
    rw [setRow_self w g cur t fz hg]
    rfl
  | v :: rest, i, cur, w, hg, hfz, hl, h1 => by
    have hi : o + i < cur.size := by simp at hl; omega
    have hadd : (⟨g, o, none⟩ : Addr).add i = ⟨g, o + i, none⟩ := by unfold Addr.add; split <;> simp_all
    have hcell : w.cell? ⟨g, o + i, none⟩ = some cur[o + i] := by simp [World.cell?, hg, hi]
    have hfro : w.frozen? ⟨g, o + i, none⟩ = false := by
      have := hfz (o + i) hi
      obtain ⟨lo, hi'⟩ := fz
      simp only [World.frozen?, hg, Bool.and_eq_false_iff, decide_eq_false_iff_not]
      simp only at this
      omega
    have hst : (store ((⟨g, o, none⟩ : Addr).add i) v).run P w = .ok () (w.setRow g (cur.setIfInBounds (o + i) v)) := by
      rw [hadd, run_store P w _ v _ (h1 v (by simp)), hcell]
      simp [hfro, setCell_eq_setRow w g (o + i) cur t fz v hg]
    have ih := storeCells_fz (P := P) g o t fz rest (i + 1) (cur.setIfInBounds (o + i) v) (w.setRow g (cur.setIfInBounds (o + i) v)) (setRow_heap w g cur _ t _ hg) (by simpa using hfz) (by simp at hl ⊢; omega) (fun x hx => h1 x (by simp [hx]))
    simp only [storeCells, Sem.run_bind, hst, Result.andThen_ok, ih, setRow_setRow]
    congr 3
    have e := list_seg_step cur.toList (o + i) v rest (by simp at hl ⊢; omega)
    simpa [Array.toList_setIfInBounds, Nat.add_assoc] using e

section
variable {P : Program} {T : Tab} (hT : TabOk P T) {μ : Mu} {w : World}
include hT

theorem run_storeVar {t : TypeId} {y : Ty} (hy : T t = some y) {g off : Nat} {ty : TypeId} {C : Array Value} {fz : Nat × Nat} (hg : w.heap[g]? = some (.cells C ty fz)) (hfz : ∀ i, i < C.size → ¬ (fz.1 ≤ i ∧ i < fz.2)) {v : Value} (hl : v.cells.size = y.size)
    (hfit : off + y.size ≤ C.size) (h1 : ∀ (j : Nat) (u : Value), v.cells[j]? = some u → u.oneCell' = true) :
    (storeVar t ⟨g, off, none⟩ v).run P w = .ok () (w.setRow g (spl C.toList off v.cells.toList).toArray) := by
  have hs := run_size hT hy w
  have hst := storeCells_fz (P := P) g off ty fz v.cells.toList 0 C w hg hfz (by simp [hl]; omega) (fun u hu => by
    obtain ⟨j, hj, rfl⟩ := List.mem_iff_getElem.1 hu
    exact h1 j _ (by simp at hj ⊢))
  simp only [Nat.add_zero] at hst
  unfold storeVar
  simp only [Sem.run_bind, hs, Result.andThen_ok, hl]
  simp only [ne_eq, not_true_eq_false, if_false]
  rw [hst]; rfl

theorem astore_sound {h : Heap} (hh : HRel h μ w) {t : TypeId} {x v : AV} {K : AV → Heap → Prop} (hk : astore T h t x v K) {p u : Value} (hx : ARel h.nx μ w x p) (hv : ARel h.nx μ w v u) :
    ∃ h' w', K .junk h' ∧ HRel h' μ w' ∧ Ext h.nx μ w μ w' ∧ h.nx ≤ h'.nx ∧ (Instr.storeAt t p u).run P w = .ok () w' := by
  unfold astore at hk
  split at hk
  · rename_i y hy
    split at hk
    · rename_i b off
      split at hk
      · rename_i cs ty hget
        cases hc : (AV.solid v && Nat.beq (AV.cells v).length y.size && Nat.ble (off + y.size) cs.length) with
        | false => rw [hc] at hk; cases hk
        | true =>
          rw [hc, cond_true, forceL_iff] at hk
          simp only [Bool.and_eq_true] at hc
          obtain ⟨⟨hc1, hc2⟩, hc3⟩ := hc
          have hc2 := Nat.eq_of_beq_eq_true hc2
          have hc3 := Nat.le_of_ble_eq_true hc3
          have ho := hh.obj b
          rw [hget] at ho
          obtain ⟨bd, C, hb, hver, hg, hlen, hr⟩ := ho
          cases hx with
          | ptr _ _ a hbn ha =>
          have ha := ha bd hb hver
          subst ha
          obtain ⟨hcl, hcr⟩ := cells_rel hv hc1
          have hst := run_storeVar hT hy hg (fun _ _ h => by simp at h) (off := off) (v := u) (by omega) (by omega) (fun j q hq => by
            have hj : j < (AV.cells v).length := by rw [← hcl]; exact (Array.getElem?_eq_some_iff.1 hq).1
            exact (hcr j _ q (List.getElem?_eq_getElem hj) hq).2)
          obtain ⟨h1, h2⟩ := hh.write (w' := w.setRow bd.blk (spl C.toList off u.cells.toList).toArray) b bd hb (Bind.real0 hver) (.var (spl cs off (AV.cells v)) ty) rfl rfl rfl (by simp) (fun i hi => setRow_other w _ _ _ hi) (fun hext => by
            refine ⟨bd, _, rfl, hver, setRow_heap w _ _ _ _ _ hg, ?_, fun j c q hj hq => ?_⟩
            · simp only [List.size_toArray]
              rw [spl_length _ _ _ (by simp [hcl]; omega), spl_length _ _ _ (by omega)]
              simpa using hlen
            · rw [spl_get _ _ _ (by omega)] at hj
              simp only [List.getElem?_toArray] at hq
              rw [spl_get _ _ _ (by simp [hcl]; omega)] at hq
              simp only [Array.length_toList, hcl] at hq
              by_cases hin : off ≤ j ∧ j < off + (AV.cells v).length
              · rw [if_pos hin] at hj hq
                have := hcr (j - off) c q hj (by simpa using hq)
                exact ⟨this.1.ext hext (Nat.le_refl _), this.2⟩
              · rw [if_neg hin] at hj hq
                have := hr j c q hj (by simpa using hq)
                exact ⟨this.1.ext hext (Nat.le_refl _), this.2⟩)
          refine ⟨_, _, hk, h1, h2, Nat.le_refl _, ?_⟩
          simp only [Instr.storeAt, Instr.sureAddr, Sem.run_bind, Sem.run_pure, Result.andThen_ok]
          exact hst
      · rename_i m f ty hget
        split at hk
        · rename_i d hd
          have go : ∀ (f' : Nat → D), tabl m f' = spl (tabl m f) off d.cells → d.cells.length = y.size → off + y.size ≤ m → K .junk (h.set b (.dvar m f' ty)) →
              ∃ h' w', K .junk h' ∧ HRel h' μ w' ∧ Ext h.nx μ w μ w' ∧ h.nx ≤ h'.nx ∧ (Instr.storeAt t p u).run P w = .ok () w' := by
            intro f' hD hlen1 hfit hk
            have ho := hh.obj b
            rw [hget] at ho
            obtain ⟨bd, C, hb, hver, hg, hlen, hr⟩ := ho
            cases hx with
            | ptr _ _ a hbn ha =>
            have ha := ha bd hb hver
            subst ha
            rw [List.length_map, tabl_length] at hlen
            obtain ⟨hcl, hcr⟩ := (toD_rel hv hd).cells
            have hcr' : ∀ (j : Nat) (c : D) (q : Value), d.cells[j]? = some c → u.cells[j]? = some q → DRel (okOf μ) w c q ∧ q.oneCell' = true := by
              intro j c q h1 h2
              obtain ⟨g1, q', g2, g3⟩ := hcr j c h1
              rw [g2] at h2; cases h2
              exact ⟨g3, g3.oneCell g1⟩
            have hst := run_storeVar hT hy hg (fun _ _ h => by simp at h) (off := off) (v := u) (by omega) (by omega) (fun j q hq => by
              have hj : j < d.cells.length := by rw [← hcl]; exact (Array.getElem?_eq_some_iff.1 hq).1
              exact (hcr' j _ q (List.getElem?_eq_getElem hj) hq).2)
            have hspl : off + u.cells.toList.length ≤ C.toList.length := by simp; omega
            obtain ⟨h1, h2⟩ := hh.write (w' := w.setRow bd.blk (spl C.toList off u.cells.toList).toArray) b bd hb (Bind.real0 hver) (.dvar m f' ty) rfl rfl rfl (by simp) (fun i hi => setRow_other w _ _ _ hi) (fun hext => by
              refine ⟨bd, _, rfl, hver, setRow_heap w _ _ _ _ _ hg, ?_, fun j c q hj hq => ?_⟩
              · simp only [List.size_toArray, List.length_map, tabl_length]
                rw [spl_length _ _ _ hspl]
                simpa using hlen
              · rw [List.getElem?_map, Option.map_eq_some_iff] at hj
                obtain ⟨c0, hj, rfl⟩ := hj
                rw [hD, spl_get _ _ _ (by rw [tabl_length]; omega)] at hj
                simp only [List.getElem?_toArray] at hq
                rw [spl_get _ _ _ hspl] at hq
                simp only [Array.length_toList, hcl] at hq
                by_cases hin : off ≤ j ∧ j < off + d.cells.length
                · rw [if_pos hin] at hj hq
                  have := hcr' (j - off) c0 q hj (by simpa using hq)
                  exact ⟨.d _ _ (this.1.keep hext.keeps), this.2⟩
                · rw [if_neg hin] at hj hq
                  have := hr j (.d c0) q (by rw [List.getElem?_map, hj]; rfl) (by simpa using hq)
                  exact ⟨this.1.ext hext (Nat.le_refl _), this.2⟩)
            refine ⟨_, _, hk, h1, h2, Nat.le_refl _, ?_⟩
            simp only [Instr.storeAt, Instr.sureAddr, Sem.run_bind, Sem.run_pure, Result.andThen_ok]
            exact hst
          cases hag : isAggT y.td with
          | true =>
            rw [hag, cond_true] at hk
            refine go _ ?_ hk.1.1 hk.1.2 hk.2
            obtain ⟨⟨q1, q2⟩, _⟩ := hk
            apply List.ext_getElem?
            intro j
            rw [spl_get _ _ _ (by rw [tabl_length]; omega)]
            by_cases hj : j < m
            · rw [tabl_get _ _ _ hj]
              by_cases hin : off ≤ j ∧ j < off + d.cells.length
              · rw [if_pos hin, Nat.ble_eq_true_of_le hin.1, show Nat.blt j (off + y.size) = true from Nat.ble_eq_true_of_le (by omega)]
                rw [List.getD_eq_getElem?_getD, List.getElem?_eq_getElem (by omega)]; rfl
              · rw [if_neg hin, tabl_get _ _ _ hj]
                have : (Nat.ble off j && Nat.blt j (off + y.size)) = false := by
                  rw [Bool.eq_false_iff]; intro hc
                  rw [Bool.and_eq_true] at hc
                  have h1 := Nat.le_of_ble_eq_true hc.1
                  have h2 : j + 1 ≤ off + y.size := Nat.le_of_ble_eq_true hc.2
                  omega
                rw [this]; rfl
            · rw [List.getElem?_eq_none (by rw [tabl_length]; omega), if_neg (by omega), List.getElem?_eq_none (by rw [tabl_length]; omega)]
          | false =>
            rw [hag, cond_false] at hk
            cases hc : (Nat.beq d.cells.length 1 && Nat.beq y.size 1 && d.one) with
            | false => rw [hc] at hk; cases hk
            | true =>
              rw [hc, cond_true] at hk
              simp only [Bool.and_eq_true] at hc
              have c1 := Nat.eq_of_beq_eq_true hc.1.1
              have c2 := Nat.eq_of_beq_eq_true hc.1.2
              have hdc : d.cells = [d] := by cases d <;> first | rfl | (simp [D.one] at hc; done)
              have hl := hk.1
              refine go _ ?_ (by omega) (by omega) hk.2
              rw [hdc]
              apply List.ext_getElem?
              intro j
              rw [spl_get _ _ _ (by rw [tabl_length]; simp; omega)]
              by_cases hj : j < m
              · rw [tabl_get _ _ _ hj]
                by_cases hin : j = off
                · subst hin
                  rw [if_pos (by simp)]
                  simp
                · rw [if_neg (by simp; omega), tabl_get _ _ _ hj]
                  have : Nat.beq j off = false := by
                    rw [Bool.eq_false_iff]; intro hc; exact hin (Nat.eq_of_beq_eq_true hc)
                  rw [this]; rfl
              · rw [List.getElem?_eq_none (by rw [tabl_length]; omega), if_neg (by simp; omega), List.getElem?_eq_none (by rw [tabl_length]; omega)]
        · cases hk
      · cases hk
    · rename_i b ver sz i off
      split at hk
      · rename_i e sz' l ver' hget
        split at hk
        · rename_i d hd
          cases hc : (Nat.beq sz sz' && Nat.beq d.cells.length y.size && Nat.beq y.size sz && Nat.beq off 0) with
          | false => rw [hc] at hk; cases hk
          | true =>
            rw [hc] at hk
            simp only [Bool.and_eq_true] at hc
            obtain ⟨⟨⟨c2, c3⟩, c4⟩, c5⟩ := hc
            obtain ⟨⟨c1, hkl⟩, hk⟩ := hk
            have hk := And.intro hkl hk
            have c2 := Nat.eq_of_beq_eq_true c2
            have c3 := Nat.eq_of_beq_eq_true c3
            have c4 := Nat.eq_of_beq_eq_true c4
            have c5 := Nat.eq_of_beq_eq_true c5
            subst c1 c2 c5
            obtain ⟨hi, hk⟩ := hk
            have ho := hh.obj b
            rw [hget] at ho
            obtain ⟨bd, C, hb, hver, h0, hat, hsz, hlen, hr⟩ := ho
            have hre : bd.real := row_real h0.2 (by have := hr.fits; omega) hi
            obtain ⟨fz, hg, hfz⟩ := hat hre
            cases hx with
            | rptr _ _ _ _ _ a hbn hv0 h00 ha =>
            have ha := ha bd hb hver
            simp only [Nat.add_zero] at ha
            subst ha
            have hdr := toD_rel hv hd
            obtain ⟨hcl', hcr⟩ := hdr.cells
            have hcr' : ∀ (j : Nat) (c : D) (q : Value), d.cells[j]? = some c → u.cells[j]? = some q → DRel (okOf μ) w c q ∧ c.one = true := by
              intro j c q hj hq
              obtain ⟨g1, q', g2, g3⟩ := hcr j c hj
              rw [g2] at hq; cases hq
              exact ⟨g3, g1⟩
            have hfit : (i + 1) * sz ≤ l.length * sz := Nat.mul_le_mul_right _ hi
            have hfit2 := hr.fits
            rw [Nat.add_mul, Nat.one_mul] at hfit
            have hst := run_storeVar hT hy hg hfz (off := i * sz) (v := u) (by omega) (by omega) (fun j q hq => by
              have hj : j < d.cells.length := by rw [← hcl']; exact (Array.getElem?_eq_some_iff.1 hq).1
              have := hcr' j _ q (List.getElem?_eq_getElem hj) hq
              exact this.1.oneCell this.2)
            have hspl : i * sz + u.cells.toList.length ≤ C.toList.length := by simp; omega
            obtain ⟨h1, h2⟩ := hh.write (w' := w.setRow bd.blk (spl C.toList (i * sz) u.cells.toList).toArray) b bd hb hre (.row e sz (l.set i d) ver) rfl rfl rfl (by simp) (fun i hi => setRow_other w _ _ _ hi) (fun hext => by
              refine ⟨bd, _, rfl, hver, h0, fun _ => ⟨fz, setRow_heap w _ _ _ _ _ hg, by rw [List.size_toArray, spl_length _ _ _ hspl]; simpa using hfz⟩, ?_, by simpa using hlen, ?_, ?_, ?_⟩
              · simp only [List.size_toArray]
                rw [spl_length _ _ _ hspl]; simpa using hsz
              · simp only [List.size_toArray, List.length_set]
                rw [spl_length _ _ _ hspl]; simpa using hr.fits
              · intro k x hx
                rw [List.getElem?_set] at hx
                split at hx
                · cases hx; omega
                · exact hr.len k x hx
              · intro k x j q hx hq
                rw [List.getElem?_set] at hx
                simp only [List.getElem?_toArray]
                rw [spl_get _ _ _ hspl]
                simp only [Array.length_toList]
                split at hx
                · rename_i hik
                  subst hik
                  · cases hx
                    have hj : j < d.cells.length := (List.getElem?_eq_some_iff.1 hq).1
                    have hj' : j < u.cells.size := by omega
                    rw [if_pos (by omega)]
                    have e1 : i * sz + j - i * sz = j := by omega
                    have := hcr' j q u.cells[j] hq (Array.getElem?_eq_getElem hj')
                    refine ⟨this.2, u.cells[j], ?_, this.1.keep hext.keeps⟩
                    rw [e1]; simp
                · rename_i hik
                  have hj : j < sz := by
                    have := (List.getElem?_eq_some_iff.1 hq).1
                    have := hr.len k x hx; omega
                  obtain ⟨q1, q2, q3, q4⟩ := hr.cell k x j q hx hq
                  refine ⟨q1, q2, ?_, q4.keep hext.keeps⟩
                  rw [if_neg]
                  · simpa using q3
                  · intro ⟨g1, g2⟩
                    rcases Nat.lt_or_gt_of_ne hik with hlt | hgt
                    · have : (i + 1) * sz ≤ k * sz := Nat.mul_le_mul_right _ hlt
                      rw [Nat.add_mul, Nat.one_mul] at this
                      omega
                    · have : (k + 1) * sz ≤ i * sz := Nat.mul_le_mul_right _ hgt
                      rw [Nat.add_mul, Nat.one_mul] at this
                      omega)
            refine ⟨_, _, hk, h1, h2, Nat.le_refl _, ?_⟩
            simp only [Instr.storeAt, Instr.sureAddr, Sem.run_bind, Sem.run_pure, Result.andThen_ok]
            exact hst
        · cases hk
      · rename_i e e2 sz2 ll ver' hole hget
        split at hk
        · rename_i j c0 c hcells
          cases hc : (AV.solid v && Nat.beq y.size 1 && Nat.beq sz 1 && Nat.beq off 0) with
          | false => rw [hc] at hk; cases hk
          | true =>
            rw [hc, cond_true] at hk
            simp only [Bool.and_eq_true] at hc
            obtain ⟨⟨⟨c1, c2⟩, c3⟩, c4⟩ := hc
            have c2 := Nat.eq_of_beq_eq_true c2
            have c3 := Nat.eq_of_beq_eq_true c3
            have c4 := Nat.eq_of_beq_eq_true c4
            obtain ⟨⟨e1, e3, hi⟩, hk⟩ := hk
            subst e1 e3 c3 c4
            have ho := hh.obj b
            rw [hget] at ho
            obtain ⟨bd, C, S, hb, hver, h0, hat, hsz, hlen, hle, hs1, hs2, hs3, hr⟩ := ho
            have hre : bd.real := fun _ => by omega
            obtain ⟨fz, hg, hfz⟩ := hat hre
            cases hx with
            | rptr _ _ _ _ _ a hbn hv0 h00 ha =>
            have ha := ha bd hb hver
            simp only [Nat.mul_one, Nat.add_zero] at ha
            subst ha
            obtain ⟨hcl, hcr⟩ := cells_rel hv c1
            rw [hcells] at hcl hcr
            have hcl1 : u.cells.size = 1 := hcl
            have h0u : u.cells[0]? = some u.cells[0] := Array.getElem?_eq_getElem (by omega)
            obtain ⟨hc0, hc1⟩ := hcr 0 c u.cells[0] rfl h0u
            have hst := run_storeVar hT hy hg hfz (off := i) (v := u) (by omega) (by omega) (fun j q hq => by
              have hj : j = 0 := by have := (Array.getElem?_eq_some_iff.1 hq).1; omega
              subst hj
              rw [h0u] at hq; cases hq; exact hc1)
            have hspl : i + u.cells.toList.length ≤ C.toList.length := by simp; omega
            obtain ⟨h1, h2⟩ := hh.write (w' := w.setRow bd.blk (spl C.toList i u.cells.toList).toArray) b bd hb hre (.nest e e2 sz2 ll ver (some (i, c))) rfl rfl rfl (by simp) (fun i hi => setRow_other w _ _ _ hi) (fun hext => by
              refine ⟨bd, _, S, rfl, hver, h0, fun _ => ⟨fz, setRow_heap w _ _ _ _ _ hg, by rw [List.size_toArray, spl_length _ _ _ hspl]; simpa using hfz⟩, ?_, hlen, ?_, hs1, hs2, hs3, fun k l hkl => ?_⟩
              · simp only [List.size_toArray]
                rw [spl_length _ _ _ hspl]; simpa using hsz
              · simp only [List.size_toArray]
                rw [spl_length _ _ _ hspl]; simpa using hle
              · obtain ⟨v0, g1, g2⟩ := hr k l hkl
                simp only [List.getElem?_toArray]
                rw [spl_get _ _ _ hspl]
                by_cases hik : k = i
                · subst hik
                  refine ⟨u.cells[0], ?_, ?_⟩
                  · rw [if_pos (by simp; omega), Nat.sub_self]; simp
                  · unfold NestAt
                    simp only [if_true]
                    exact ⟨hc0.ext hext (Nat.le_refl _), hc1⟩
                · refine ⟨v0, ?_, ?_⟩
                  · rw [if_neg (by simp; omega)]; simpa using g1
                  · unfold NestAt at g2 ⊢
                    simp only at g2 ⊢
                    rw [if_neg hik] at g2 ⊢
                    exact g2.ext hext fun q hq => setRow_other w _ _ _ (fun e => hs3 hre (by rw [← e]; exact hs1 k q hq)))
            refine ⟨_, _, hk, h1, h2, Nat.le_refl _, ?_⟩
            simp only [Instr.storeAt, Instr.sureAddr, Sem.run_bind, Sem.run_pure, Result.andThen_ok]
            exact hst
        · cases hk
      · cases hk
    · cases hk
  · cases hk
end
end Go.Pm
end
section
/- The operations that write or make memory, second part: new variables, literals, new rows. -/
namespace Go.Pm

def abox (h : Heap) (t : TypeId) (v : AV) (K : AV → Heap → Prop) : Prop :=
  cond (AV.solid v) (K (.ptr h.nx 0) (h.push (.var (AV.cells v) t))) False

def aalloc (T : Tab) (h : Heap) (t : TypeId) (K : AV → Heap → Prop) : Prop :=
  match T t with
  | some y => match y.td with
    | .array _ _ => K (.ptr h.nx 0) (h.push (.dvar y.zero.cells.length (fun i => y.zero.cells.getD i .nilp) t))
    | _ => K (.ptr h.nx 0) (h.push (.var (AV.cells (.d y.zero)) t))
  | none => False

def fillA (place : Nat → Option (Nat × Nat)) : List AV → List (Nat × AV) → Option (List AV)
  | cells, [] => some cells
  | cells, (i, v) :: r => match place i with
    | some (off, size) => cond (AV.solid v && Nat.beq (AV.cells v).length size && Nat.ble (off + size) cells.length) (fillA place (spl cells off (AV.cells v)) r) none
    | none => none

def placesT (T : Tab) : List (TypeId × Nat) → Option (List (Nat × Nat))
  | [] => some []
  | (ft, off) :: r => match T ft, placesT T r with
    | some y, some q => some ((off, y.size) :: q)
    | _, _ => none

def abuild (T : Tab) (t : TypeId) (parts : List (Nat × AV)) (K : AV → Prop) : Prop :=
  match T t with
  | some y => match y.td with
    | .struct fs => match placesT T fs with
      | some ps => match fillA (fun i => ps[i]?) (AV.cells (.d y.zero)) parts with
        | some cs => K (.agg cs)
        | none => False
      | none => False
    | .array _ e => match T e with
      | some ye => match fillA (fun i => some (i * ye.size, ye.size)) (AV.cells (.d y.zero)) parts with
        | some cs => K (.agg cs)
        | none => False
      | none => False
    | _ => False
  | none => False

def dense : Nat → List (Nat × AV) → Bool
  | _, [] => true
  | i, (j, _) :: r => Nat.beq i j && dense (i + 1) r

def abuildSlice (T : Tab) (h : Heap) (t : TypeId) (len : Nat) (parts : List (Nat × AV)) (K : AV → Heap → Prop) : Prop :=
  match T t with
  | some y => match y.td with
    | .slice e => match T e with
      | some ye => match toDs (parts.map (·.2)) with
        | some ds => cond (dense 0 parts && Nat.beq ds.length len && sized ye.size ds && Nat.blt 0 ye.size && Nat.ble (len * ye.size) 16777216)
            (K (.own h.nx 1 ye.size) (h.push (.row e ye.size ds 1))) False
        | none => False
      | none => False
    | _ => False
  | none => False

def amakeSlice (T : Tab) (h : Heap) (t : TypeId) (len cap : AV) (K : AV → Heap → Prop) : Prop :=
  match T t with
  | some y => match y.td with
    | .slice e => match T e with
      | some ye => match len, cap with
        | .d (.int .i64 n), .d (.int .i64 c) => (0 ≤ n ∧ n ≤ c ∧ ye.bytes * c ≤ 140737488355328 ∧ c ≤ maxLen) ∧
            (cond (Nat.beq ye.zero.cells.length ye.size && Nat.blt 0 ye.size) (K (.own h.nx 1 ye.size) (h.push (.row e ye.size (List.replicate n.toNat ye.zero) 1))) False)
        | _, _ => False
      | none => False
    | _ => False
  | none => False

section
variable {P : Program} {T : Tab} (hT : TabOk P T) {μ : Mu} {w : World}

/-- A new variable. -/
theorem push_var {h : Heap} (hh : HRel h μ w) {v : AV} (hs : AV.solid v = true) {u : Value} (hv : ARel h.nx μ w v u) (t : TypeId) :
    HRel (h.push (.var (AV.cells v) t)) (muSet μ h.nx (some ⟨w.heap.size, 0, 0, 0, noSub⟩)) (w.alloc (.cells u.cells t)) ∧
    Ext h.nx μ w (muSet μ h.nx (some ⟨w.heap.size, 0, 0, 0, noSub⟩)) (w.alloc (.cells u.cells t)) := by
  refine hh.push (.var (AV.cells v) t) (.cells u.cells t) ⟨w.heap.size, 0, 0, 0, noSub⟩ rfl (fun _ h => h) rfl (fun hext => ?_)
  obtain ⟨h1, h2⟩ := cells_rel hv hs
  exact ⟨_, u.cells, rfl, rfl, heap_alloc_new w _, h1, fun j c q hc hq => ⟨(h2 j c q hc hq).1.ext hext (Nat.le_succ _), (h2 j c q hc hq).2⟩⟩

theorem ptr_new {h : Heap} {o : AObj} (w' : World) (n : Nat) : ARel (h.push o).nx (muSet μ h.nx (some ⟨n, 0, 0, 0, noSub⟩)) w' (.ptr h.nx 0) (.pointer (some ⟨n, 0, none⟩)) := by
  refine .ptr _ _ _ (Nat.lt_succ_self _) (fun bd hb _ => ?_)
  rw [muSet_at, if_pos rfl] at hb; cases hb; rfl

theorem abox_sound {h : Heap} (hh : HRel h μ w) {t : TypeId} {v : AV} {K : AV → Heap → Prop} (hk : abox h t v K) {u : Value} (hv : ARel h.nx μ w v u) :
    ∃ x h' μ' w' r, K x h' ∧ HRel h' μ' w' ∧ Ext h.nx μ w μ' w' ∧ h.nx ≤ h'.nx ∧ (Instr.box t u).run P w = .ok r w' ∧ ARel h'.nx μ' w' x r := by
  unfold abox at hk
  cases hc : AV.solid v with
  | false => rw [hc] at hk; cases hk
  | true =>
    rw [hc] at hk
    obtain ⟨h1, h2⟩ := push_var hh hc hv t
    exact ⟨_, _, _, _, _, hk, h1, h2, Nat.le_succ _, rfl, ptr_new _ _⟩

include hT in
theorem aalloc_sound {h : Heap} (hh : HRel h μ w) {t : TypeId} {K : AV → Heap → Prop} (hk : aalloc T h t K) (old : Value) :
    ∃ x h' μ' w' r, K x h' ∧ HRel h' μ' w' ∧ Ext h.nx μ w μ' w' ∧ h.nx ≤ h'.nx ∧ (Instr.alloc t true old).run P w = .ok r w' ∧ ARel h'.nx μ' w' x r := by
  unfold aalloc at hk
  split at hk
  · rename_i y hy
    obtain ⟨z, hz, hr, _⟩ := run_zero hT hy w
    obtain ⟨h1, h2⟩ := push_var hh (v := .d y.zero) rfl (.d _ _ (hr _ w)) t
    have hrun : (Instr.alloc t true old).run P w = .ok (.pointer (some ⟨w.heap.size, 0, none⟩)) (w.alloc (.cells z.cells t)) := by
      unfold Instr.alloc
      simp only [Sem.run_bind, hz, Result.andThen_ok]
      rfl
    split at hk
    · refine ⟨_, _, _, _, .pointer (some ⟨w.heap.size, 0, none⟩), hk, h1.same rfl (fun i b ho => ?_), h2, Nat.le_succ _, hrun, ptr_new (o := .var (AV.cells (.d y.zero)) t) _ _⟩
      rw [Heap.get_push] at ho ⊢
      split at ho
      · rename_i e; rw [if_pos e]; rw [AV.cells_d] at ho
        have : tabl y.zero.cells.length (fun i => y.zero.cells.getD i .nilp) = y.zero.cells := by
          apply List.ext_getElem?
          intro j
          by_cases hj : j < y.zero.cells.length
          · rw [tabl_get _ _ _ hj, List.getD_eq_getElem?_getD, List.getElem?_eq_getElem hj]; rfl
          · rw [List.getElem?_eq_none (by rw [tabl_length]; omega), List.getElem?_eq_none (by omega)]
        rw [← this] at ho
        exact ho
      · rename_i e; rw [if_neg e]; exact ho
    · exact ⟨_, _, _, _, .pointer (some ⟨w.heap.size, 0, none⟩), hk, h1, h2, Nat.le_succ _, hrun, ptr_new _ _⟩
  · cases hk

/-- Cells that are filled. -/
theorem fillA_sound {place : Nat → Option (Nat × Nat)} {n : Nat} : ∀ (parts : List (Nat × AV)) (cells : List AV) (vs : List (Nat × Value)) (C : Array Value) {cs : List AV}, fillA place cells parts = some cs →
    vs.length = parts.length → (∀ (i : Nat) (p : Nat × AV) (q : Nat × Value), parts[i]? = some p → vs[i]? = some q → q.1 = p.1 ∧ ARel n μ w p.2 q.2) →
    C.size = cells.length → (∀ (j : Nat) (c : AV) (v : Value), cells[j]? = some c → C[j]? = some v → ARel n μ w c v ∧ v.oneCell' = true) →
    ∃ R, Instr.fill place C vs = some R ∧ R.size = cs.length ∧ ∀ (j : Nat) (c : AV) (v : Value), cs[j]? = some c → R[j]? = some v → ARel n μ w c v ∧ v.oneCell' = true
  | [], cells, vs, C, cs, h, hl, hp, hC, hr => by
    cases vs with
    | nil => simp only [fillA] at h; cases h; exact ⟨C, rfl, hC, hr⟩
    | cons _ _ => simp at hl
  | (i, v) :: r, cells, vs, C, cs, h, hl, hp, hC, hr => by
    cases vs with
    | nil => simp at hl
    | cons q vs =>
      obtain ⟨i', u⟩ := q
      obtain ⟨e, hu⟩ := hp 0 _ _ rfl rfl
      dsimp only at e hu
      subst e
      simp only [fillA] at h
      split at h
      · rename_i off size hpl
        cases hc : (AV.solid v && Nat.beq (AV.cells v).length size && Nat.ble (off + size) cells.length) with
        | false => rw [hc] at h; cases h
        | true =>
          rw [hc, cond_true] at h
          simp only [Bool.and_eq_true] at hc
          obtain ⟨⟨c1, c2⟩, c3⟩ := hc
          have c2 := Nat.eq_of_beq_eq_true c2
          have c3 := Nat.le_of_ble_eq_true c3
          obtain ⟨k1, k2⟩ := cells_rel hu c1
          obtain ⟨g1, g2⟩ := Great.foldl_set off u.cells.toList 0 C
          obtain ⟨R, hR, hRs, hRr⟩ := fillA_sound r (spl cells off (AV.cells v)) vs ((u.cells.toList.zipIdx 0).foldl (fun cs (x : Value × Nat) => cs.setIfInBounds (off + x.2) x.1) C) h
            (by simpa using hl) (fun i p q h1 h2 => hp (i + 1) p q h1 h2) (by rw [g1, hC, spl_length _ _ _ (by omega)]) (fun j c q hj hq => by
              rw [spl_get _ _ _ (by omega)] at hj
              rw [g2 j] at hq
              simp only [Nat.add_zero, Array.length_toList, k1] at hq
              by_cases hin : off ≤ j ∧ j < off + (AV.cells v).length
              · rw [if_pos hin] at hj
                rw [if_pos ⟨hin.1, hin.2, by omega⟩] at hq
                exact k2 _ _ _ hj (by simpa using hq)
              · rw [if_neg hin] at hj
                rw [if_neg (by omega)] at hq
                exact hr _ _ _ hj hq)
          refine ⟨R, ?_, hRs, hRr⟩
          unfold Instr.fill
          simp only [hpl, k1, c2]
          rw [if_neg (by simp; omega)]
          rw [← hR]
          congr 1
          rw [← Array.foldl_toList, Array.toList_zipIdx]
      · cases h

include hT in
theorem placesT_sound : ∀ (fs : List Field) (ps : List (Nat × Nat)), placesT T (fs.map fun f => (f.type, f.offset)) = some ps → ∀ w, (fs.mapM fun f => do pure (f.offset, ← sizeOf f.type) : Sem (List (Nat × Nat))).run P w = .ok ps w
  | [], ps, h, w => by simp [placesT] at h; subst h; simp
  | f :: fs, ps, h, w => by
    simp only [List.map_cons, placesT] at h
    split at h
    · rename_i y q h1 h2
      cases h
      have := placesT_sound fs q h2 w
      simp only [List.mapM_cons, Sem.run_bind, run_size hT h1 w, Result.andThen_ok, Sem.run_pure, this]
    · cases h

include hT in
theorem abuild_sound {n : Nat} {t : TypeId} {parts : List (Nat × AV)} {K : AV → Prop} (hk : abuild T t parts K) (vs : List (Nat × Value)) (hl : vs.length = parts.length)
    (hp : ∀ (i : Nat) (p : Nat × AV) (q : Nat × Value), parts[i]? = some p → vs[i]? = some q → q.1 = p.1 ∧ ARel n μ w p.2 q.2) :
    ∃ r z, K z ∧ (Instr.build t vs.toArray).run P w = .ok r w ∧ ARel n μ w z r := by
  have fin : ∀ (cs : List AV) (R : Array Value), R.size = cs.length → (∀ (j : Nat) (c : AV) (v : Value), cs[j]? = some c → R[j]? = some v → ARel n μ w c v ∧ v.oneCell' = true) → ARel n μ w (.agg cs) (.agg R) := by
    intro cs R h1 h2
    have := ARel.agg (n := n) (μ := μ) (w := w) cs R.toList (by simpa using h1) (fun i v hv => by
      have hi : i < cs.length := by have := (List.getElem?_eq_some_iff.1 hv).1; simp at this; omega
      exact (h2 i _ v (List.getElem?_eq_getElem hi) (by simpa using hv)).2) (fun i c v hc hv => (h2 i c v hc (by simpa using hv)).1)
    simpa using this
  unfold abuild at hk
  split at hk
  · rename_i y hy
    obtain ⟨d, hd, htd⟩ := run_und hT hy w
    obtain ⟨z, hz, hzr, hzs⟩ := run_zero hT hy w
    have hz' : ARel n μ w (.d y.zero) z := .d _ _ (hzr _ w)
    obtain ⟨z1, z2⟩ := cells_rel hz' rfl
    split at hk
    · rename_i fs hfs
      obtain ⟨F, rfl, hF⟩ := tdOf_struct (htd.trans hfs)
      subst hF
      split at hk
      · rename_i ps hps
        split at hk
        · rename_i cs hcs
          obtain ⟨R, h1, h2, h3⟩ := fillA_sound (place := fun i => ps[i]?) parts _ vs z.cells hcs hl hp z1 z2
          have hpl := placesT_sound hT F.toList ps hps w
          refine ⟨.agg R, _, hk, ?_, fin cs R h2 h3⟩
          have hm : (F.mapM fun f => do pure (f.offset, ← sizeOf f.type) : Sem (Array (Nat × Nat))).run P w = .ok ps.toArray w := by
            rw [Array.mapM_eq_mapM_toList, Sem.run_map, hpl]; rfl
          simp only [Instr.build, Sem.run_bind, hz, hd, hm, Result.andThen_ok]
          have : (fun (x : Nat) => (ps.toArray)[x]?) = fun i => ps[i]? := by funext i; simp
          simp only [this, h1]; rfl
        · cases hk
      · cases hk
    · rename_i m e he
      have := tdOf_array (htd.trans he); subst this
      split at hk
      · rename_i ye hye
        split at hk
        · rename_i cs hcs
          obtain ⟨R, h1, h2, h3⟩ := fillA_sound (place := fun i => some (i * ye.size, ye.size)) parts _ vs z.cells hcs hl hp z1 z2
          refine ⟨.agg R, _, hk, ?_, fin cs R h2 h3⟩
          simp only [Instr.build, Sem.run_bind, hz, hd, run_size hT hye w, Result.andThen_ok, h1]; rfl
        · cases hk
      · cases hk
    · cases hk
  · cases hk
end
end Go.Pm
end
section
/- The operations that write or make memory, third part: rows that are made, appended to. -/
namespace Go.Pm

section
variable {P : Program} {T : Tab} (hT : TabOk P T) {μ : Mu} {w : World}

/-- Data laid side by side. -/
structure Laid (ok : Nat → Prop) (w : World) (sz : Nat) (l : List D) (C : List Value) : Prop where
  len : C.length = l.length * sz
  szs : ∀ (i : Nat) (x : D), l[i]? = some x → (D.cells x).length = sz
  cell : ∀ (i : Nat) (x : D) (j : Nat) (u : D), l[i]? = some x → (D.cells x)[j]? = some u → D.one u = true ∧ ∃ v, C[i * sz + j]? = some v ∧ DRel ok w u v

theorem Laid.nil {ok : Nat → Prop} {sz : Nat} : Laid ok w sz [] [] := ⟨by simp, fun i x h => by simp at h, fun i x j u h => by simp at h⟩

theorem Laid.append {ok : Nat → Prop} {sz : Nat} {l m : List D} {C E : List Value} (h : Laid ok w sz l C) (k : Laid ok w sz m E) : Laid ok w sz (l ++ m) (C ++ E) := by
  refine ⟨by rw [List.length_append, List.length_append, h.len, k.len, Nat.add_mul], fun i x hx => ?_, fun i x j u hx hu => ?_⟩
  · rw [List.getElem?_append] at hx
    split at hx
    · exact h.szs i x hx
    · exact k.szs _ x hx
  · rw [List.getElem?_append] at hx
    split at hx
    · obtain ⟨h1, v, h2, h3⟩ := h.cell i x j u hx hu
      refine ⟨h1, v, ?_, h3⟩
      rw [List.getElem?_append_left (List.getElem?_eq_some_iff.1 h2).1]; exact h2
    · rename_i hlt
      obtain ⟨h1, v, h2, h3⟩ := k.cell _ x j u hx hu
      refine ⟨h1, v, ?_, h3⟩
      have e : i * sz = l.length * sz + (i - l.length) * sz := by rw [← Nat.add_mul]; congr 1; omega
      rw [List.getElem?_append_right (by rw [h.len]; omega), h.len, ← h2]
      congr 1; omega

theorem Laid.keep {ok ok' : Nat → Prop} {w' : World} (hk : Keeps ok ok' w w') {sz : Nat} {l : List D} {C : List Value} (h : Laid ok w sz l C) : Laid ok' w' sz l C :=
  ⟨h.len, h.szs, fun i x j u h1 h2 => let ⟨a, v, b, c⟩ := h.cell i x j u h1 h2; ⟨a, v, b, c.keep hk⟩⟩

/-- Every cell of what is laid is one cell. -/
theorem Laid.one {ok : Nat → Prop} {sz : Nat} {l : List D} {C : List Value} (h : Laid ok w sz l C) : ∀ v ∈ C, v.oneCell' = true := by
  intro v hv
  obtain ⟨k, hk, rfl⟩ := List.mem_iff_getElem.1 hv
  have hk' := hk
  rw [h.len] at hk'
  have hs : 0 < sz := by rcases Nat.eq_zero_or_pos sz with h0 | h0; · subst h0; omega
                         · exact h0
  have hi : k / sz < l.length := (Nat.div_lt_iff_lt_mul hs).2 hk'
  have hj : k % sz < (D.cells l[k / sz]).length := by rw [h.szs _ _ (List.getElem?_eq_getElem hi)]; exact Nat.mod_lt _ hs
  obtain ⟨h1, v, h2, h3⟩ := h.cell _ _ _ _ (List.getElem?_eq_getElem hi) (List.getElem?_eq_getElem hj)
  have e : k / sz * sz + k % sz = k := by rw [Nat.mul_comm]; exact Nat.div_add_mod k sz
  rw [e, List.getElem?_eq_getElem hk] at h2
  cases h2
  exact h3.oneCell h1

theorem RowCells.laid {sz : Nat} {l : List D} {C : Array Value} (h : RowCells μ w sz l C) : Laid (okOf μ) w sz l (C.toList.take (l.length * sz)) := by
  refine ⟨by have := h.fits; simp; omega, h.len, fun i x j u hx hu => ?_⟩
  obtain ⟨h1, v, h2, h3⟩ := h.cell i x j u hx hu
  refine ⟨h1, v, ?_, h3⟩
  have hi := (List.getElem?_eq_some_iff.1 hx).1
  have hj := (List.getElem?_eq_some_iff.1 hu).1
  rw [h.len i x hx] at hj
  have : (i + 1) * sz ≤ l.length * sz := Nat.mul_le_mul_right _ hi
  rw [Nat.add_mul, Nat.one_mul] at this
  rw [List.getElem?_take, if_pos (by omega)]
  simpa using h2

/-- What is laid and more makes a row. -/
theorem Laid.row {sz : Nat} {l : List D} {C : List Value} (h : Laid (okOf μ) w sz l C) (rest : List Value) : RowCells μ w sz l (C ++ rest).toArray := by
  refine ⟨by simp [h.len], h.szs, fun i x j u hx hu => ?_⟩
  obtain ⟨h1, v, h2, h3⟩ := h.cell i x j u hx hu
  refine ⟨h1, v, ?_, h3⟩
  simp only [List.getElem?_toArray]
  rw [List.getElem?_append_left (List.getElem?_eq_some_iff.1 h2).1]; exact h2

/-- One value, one datum. -/
theorem Laid.flat {ok : Nat → Prop} {sz : Nat} : ∀ (ds : List D) (vs : List Value), vs.length = ds.length → sized sz ds = true → (∀ (i : Nat) (d : D) (v : Value), ds[i]? = some d → vs[i]? = some v → DRel ok w d v) →
    Laid ok w sz ds (vs.flatMap fun v => v.cells.toList)
  | [], vs, hl, _, _ => by
    cases vs with
    | nil => exact .nil
    | cons _ _ => simp at hl
  | d :: ds, vs, hl, hs, h => by
    cases vs with
    | nil => simp at hl
    | cons v vs =>
      simp only [sized, Bool.and_eq_true] at hs
      have h0 := h 0 d v rfl rfl
      obtain ⟨c1, c2⟩ := h0.cells
      have hd : Laid ok w sz [d] v.cells.toList := by
        have e := Nat.eq_of_beq_eq_true hs.1
        refine ⟨by simp [c1, e], fun i x hx => ?_, fun i x j u hx hu => ?_⟩
        · cases i with
          | zero => simp at hx; subst hx; exact e
          | succ i => simp at hx
        · cases i with
          | zero =>
            simp at hx; subst hx
            obtain ⟨g1, q, g2, g3⟩ := c2 j u hu
            exact ⟨g1, q, by simpa using g2, g3⟩
          | succ i => simp at hx
      exact hd.append (Laid.flat ds vs (by simpa using hl) hs.2 fun i d v h1 h2 => h (i + 1) d v h1 h2)

/-- A new row. -/
theorem push_row {h : Heap} (hh : HRel h μ w) {e : TypeId} {sz : Nat} {l : List D} {C : List Value} (hl : Laid (okOf μ) w sz l C) (hsz : 0 < sz) (rest : List Value) (w1 : World) (hw : w1.heap = w.heap) (hos : w1.os = w.os) (hout : w1.output = w.output)
    (htape : w1.tape = w.tape) :
    HRel (h.push (.row e sz l 1)) (muSet μ h.nx (some ⟨w.heap.size, 1, (C ++ rest).length, l.length, noSub⟩)) (w1.alloc (.cells (C ++ rest).toArray e)) ∧
    Ext h.nx μ w (muSet μ h.nx (some ⟨w.heap.size, 1, (C ++ rest).length, l.length, noSub⟩)) (w1.alloc (.cells (C ++ rest).toArray e)) := by
  have e1 : HRel h μ w1 := by
    refine ⟨hh.outs, fun k hk => hh.fresh k (by rw [← hw]; exact hk), fun i => ?_, hh.hi, hh.inj, fun i b k hb hk => by rw [hw]; exact hh.lts i b k hb hk⟩
    refine (hh.obj i).ext (μ' := μ) (n' := h.nx) ⟨hos, htape, hout, by rw [hw]; exact Nat.le_refl _, rfl, fun k _ _ => by rw [hw], fun i bd' _ h => ⟨bd', h, .inl ⟨_, rfl⟩⟩, fun _ _ h => h⟩
      (Nat.le_refl _) (fun bd _ _ _ => by rw [hw])
  have hk : Keeps (okOf μ) (okOf μ) w w1 := ⟨fun k _ h => h, fun k _ _ => by rw [hw]⟩
  obtain ⟨h1, h2⟩ := e1.push (w' := w1.alloc (.cells (C ++ rest).toArray e)) (.row e sz l 1) (.cells (C ++ rest).toArray e) ⟨w.heap.size, 1, (C ++ rest).length, l.length, noSub⟩ (by rw [hw]) (fun _ h => h) rfl (fun hext => by
    exact ⟨_, (C ++ rest).toArray, rfl, rfl, ⟨Nat.one_pos, hsz⟩, fun _ => ⟨(0, 0), by rw [← hw]; exact heap_alloc_new w1 _, fun _ _ h => by simp at h⟩, by simp, rfl, ((hl.keep hk).keep hext.keeps).row rest⟩)
  refine ⟨h1, ⟨h2.os.trans hos, h2.tape.trans htape, h2.output.trans hout, by rw [← hw]; exact h2.size, h2.out, fun k hk ho => by rw [h2.keep k (by rw [hw]; exact hk) ho, hw], fun i bd' hi hb => ?_, fun k hk hf => h2.frees k (by rw [hw]; exact hk) hf⟩⟩
  exact h2.old i bd' hi hb

theorem own_new {h : Heap} {o : AObj} {sz N m c : Nat} (w' : World) (k : Nat) (hm : m ≤ c) (hc : c ≤ maxLen) (hN : c * sz ≤ N) :
    ARel (h.push o).nx (muSet μ h.nx (some ⟨k, 1, N, m, noSub⟩)) w' (.own h.nx 1 sz) (.slice (some ⟨k, 0, none⟩) m c) := by
  refine .own _ _ _ _ _ _ (Nat.lt_succ_self _) hm hc (fun bd hb => ?_) Nat.one_pos (fun bd hb _ => ?_)
  · rw [muSet_at, if_pos rfl] at hb; cases hb; exact Nat.le_refl _
  · rw [muSet_at, if_pos rfl] at hb; cases hb; exact ⟨fun _ => rfl, hN, rfl⟩

theorem dense_zip : ∀ (i : Nat) (parts : List (Nat × AV)) (vs : List (Nat × Value)), dense i parts = true → vs.length = parts.length →
    (∀ (k : Nat) (p : Nat × AV) (q : Nat × Value), parts[k]? = some p → vs[k]? = some q → q.1 = p.1) → vs = ((vs.map (·.2)).zipIdx i).map fun x => (x.2, x.1)
  | _, [], vs, _, hl, _ => by
    cases vs with
    | nil => rfl
    | cons _ _ => simp at hl
  | i, (j, v) :: r, vs, hd, hl, hp => by
    cases vs with
    | nil => simp at hl
    | cons q vs =>
      simp only [dense, Bool.and_eq_true] at hd
      have e := Nat.eq_of_beq_eq_true hd.1
      have e0 := hp 0 _ _ rfl rfl
      dsimp only at e0
      simp only [List.map_cons, List.zipIdx_cons]
      rw [← dense_zip (i + 1) r vs hd.2 (by simpa using hl) fun k p q h1 h2 => hp (k + 1) p q h1 h2]
      congr 1
      obtain ⟨a, b⟩ := q
      simp only at e0 ⊢
      rw [e0, e]

include hT in
theorem abuildSlice_sound {h : Heap} (hh : HRel h μ w) {t : TypeId} {len : Nat} {parts : List (Nat × AV)} {K : AV → Heap → Prop} (hk : abuildSlice T h t len parts K) (vs : List (Nat × Value)) (hl : vs.length = parts.length)
    (hp : ∀ (i : Nat) (p : Nat × AV) (q : Nat × Value), parts[i]? = some p → vs[i]? = some q → q.1 = p.1 ∧ ARel h.nx μ w p.2 q.2) :
    ∃ x h' μ' w' r, K x h' ∧ HRel h' μ' w' ∧ Ext h.nx μ w μ' w' ∧ h.nx ≤ h'.nx ∧ (Instr.buildSlice t len vs.toArray).run P w = .ok r w' ∧ ARel h'.nx μ' w' x r := by
  unfold abuildSlice at hk
  split at hk
  · rename_i y hy
    obtain ⟨d, hd, htd⟩ := run_und hT hy w
    split at hk
    · rename_i e he
      have := tdOf_slice (htd.trans he); subst this
      split at hk
      · rename_i ye hye
        split at hk
        · rename_i ds hds
          cases hc : (dense 0 parts && Nat.beq ds.length len && sized ye.size ds && Nat.blt 0 ye.size && Nat.ble (len * ye.size) 16777216) with
          | false => rw [hc] at hk; cases hk
          | true =>
            rw [hc, cond_true] at hk
            simp only [Bool.and_eq_true] at hc
            obtain ⟨⟨⟨⟨c1, c2⟩, c3⟩, c4⟩, c5⟩ := hc
            have c2 := Nat.eq_of_beq_eq_true c2
            have c4 : 0 < ye.size := Nat.le_of_ble_eq_true c4
            have c5 := Nat.le_of_ble_eq_true c5
            have hdl : ds.length = vs.length := by rw [toDs_len hds]; simp [hl]
            have hrel : ∀ (i : Nat) (d : D) (v : Value), ds[i]? = some d → (vs.map (·.2))[i]? = some v → DRel (okOf μ) w d v := by
              intro i d v h1 h2
              obtain ⟨x, hx, hxd⟩ := toDs_get hds i d h1
              rw [List.getElem?_map, Option.map_eq_some_iff] at hx h2
              obtain ⟨p, hp1, rfl⟩ := hx
              obtain ⟨q, hq1, rfl⟩ := h2
              exact toD_rel (hp i p q hp1 hq1).2 hxd
            have hlaid := Laid.flat ds (vs.map (·.2)) (by simp [hdl]) c3 hrel
            have hz := dense_zip 0 parts vs c1 hl fun k p q h1 h2 => (hp k p q h1 h2).1
            have hcells : ∀ v ∈ vs.map (·.2), v.cells.size = ye.size := by
              intro v hv
              obtain ⟨i, hi, rfl⟩ := List.mem_iff_getElem.1 hv
              have hi' : i < ds.length := by simp at hi; omega
              have := hrel i _ _ (List.getElem?_eq_getElem hi') (List.getElem?_eq_getElem hi)
              rw [this.cells.1]
              exact sized_get c3 i _ (List.getElem?_eq_getElem hi')
            have hw : ∀ C : Array Value, C.size = len * ye.size → Instr.fill (fun i => some (i * ye.size, ye.size)) C vs = some ((vs.map (·.2)).flatMap fun v => v.cells.toList).toArray := by
              intro C hC
              have := Great.fill_whole c4 (vs.map (·.2)) C hcells (by simp [← hdl, c2, hC])
              rwa [← hz] at this
            obtain ⟨h1, h2⟩ := push_row hh (e := e) hlaid c4 [] w rfl rfl rfl rfl
            have hlen : ((vs.map (·.2)).flatMap fun v => v.cells.toList).length = len * ye.size := by rw [hlaid.len, c2]
            refine ⟨_, _, _, _, .slice (some ⟨w.heap.size, 0, none⟩) len len, hk, h1, h2, Nat.le_succ _, ?_, ?_⟩
            · have hr := run_size hT hye w
              obtain ⟨z, hzz, _, _⟩ := run_zero hT hye w
              unfold Instr.buildSlice
              simp only [Sem.run_bind, hd, hr, Result.andThen_ok]
              rw [if_neg (by omega)]
              by_cases h0 : len * ye.size = 0
              · rw [if_pos h0]
                simp only [Sem.run_pure, Result.andThen_ok, Sem.run_bind]
                rw [hw _ (by simp)]
                simp [newRow]
              · rw [if_neg h0]
                simp only [Sem.run_pure, Result.andThen_ok, Sem.run_bind, hzz]
                rw [hw _ (by simp)]
                simp [newRow]
            · have := own_new (h := h) (μ := μ) (o := .row e ye.size ds 1) (sz := ye.size) (N := len * ye.size) (m := len) (c := len) (w.alloc (.cells ((vs.map (·.2)).flatMap fun v => v.cells.toList).toArray e)) w.heap.size (Nat.le_refl _) (by
                have : len ≤ len * ye.size := Nat.le_mul_of_pos_right _ c4
                simp only [maxLen]; omega) (Nat.le_refl _)
              simpa [hlen, c2] using this
        · cases hk
      · cases hk
    · cases hk
  · cases hk

theorem Laid.replicate {ok : Nat → Prop} {sz : Nat} {d : D} {z : Value} (hz : DRel ok w d z) (hd : d.cells.length = sz) (n : Nat) : Laid ok w sz (List.replicate n d) ((List.range (n * sz)).map fun k => z.cells[k % z.cells.size]!) := by
  have hc := hz.cells
  refine ⟨by simp, fun i x hx => ?_, fun i x j u hx hu => ?_⟩
  · rw [List.getElem?_replicate] at hx
    split at hx
    · cases hx; exact hd
    · cases hx
  · rw [List.getElem?_replicate] at hx
    split at hx
    · rename_i hi
      cases hx
      obtain ⟨h1, q, h2, h3⟩ := hc.2 j u hu
      refine ⟨h1, q, ?_, h3⟩
      have hj : j < sz := by have := (List.getElem?_eq_some_iff.1 hu).1; omega
      have : (i + 1) * sz ≤ n * sz := Nat.mul_le_mul_right _ hi
      rw [Nat.add_mul, Nat.one_mul] at this
      have hk : (i * sz + j) % z.cells.size = j := by
        rw [hc.1, hd, Nat.mul_comm, Nat.mul_add_mod, Nat.mod_eq_of_lt hj]
      rw [List.getElem?_map, List.getElem?_range (by omega)]
      simp only [Option.map_some, hk]
      have hj' : j < z.cells.size := by omega
      rw [getElem!_pos z.cells j hj']
      rw [Array.getElem?_eq_getElem hj'] at h2
      exact h2
    · cases hx

include hT in
theorem amakeSlice_sound {h : Heap} (hh : HRel h μ w) {t : TypeId} {len cap : AV} {K : AV → Heap → Prop} (hk : amakeSlice T h t len cap K) {u v : Value} (hu : ARel h.nx μ w len u) (hv : ARel h.nx μ w cap v) :
    ∃ x h' μ' w' r, K x h' ∧ HRel h' μ' w' ∧ Ext h.nx μ w μ' w' ∧ h.nx ≤ h'.nx ∧ (Instr.makeSlice t u v).run P w = .ok r w' ∧ ARel h'.nx μ' w' x r := by
  unfold amakeSlice at hk
  split at hk
  · rename_i y hy
    obtain ⟨d, hd, htd⟩ := run_und hT hy w
    split at hk
    · rename_i e he
      have := tdOf_slice (htd.trans he); subst this
      split at hk
      · rename_i ye hye
        split at hk
        · rename_i n c
          obtain ⟨⟨h0, h1, h2, h3⟩, hk⟩ := hk
          cases hc : (Nat.beq ye.zero.cells.length ye.size && Nat.blt 0 ye.size) with
          | false => rw [hc] at hk; cases hk
          | true =>
            rw [hc, cond_true] at hk
            simp only [Bool.and_eq_true] at hc
            have c1 := Nat.eq_of_beq_eq_true hc.1
            have c2 : 0 < ye.size := Nat.le_of_ble_eq_true hc.2
            cases hu; rename_i hu; cases hu
            cases hv; rename_i hv; cases hv
            obtain ⟨z, hz, hzr, hzs⟩ := run_zero hT hye w
            obtain ⟨i, z', hi, hi1, hi2, _, hi3, _, _⟩ := hT.info e ye hye
            have hzz : (zeroValue e).run P w = .ok z' w := by simp [zeroValue, typeInfo, hi, hi3]
            rw [hz] at hzz; cases hzz
            have hc63 : c ≤ 9223372036854775807 := by simp only [maxLen] at h3; omega
            have hw1 : IntKind.i64.wrap n = n := wrap_rng (by simp only [rng]; omega)
            have hw2 : IntKind.i64.wrap c = c := wrap_rng (by simp only [rng]; omega)
            obtain ⟨cn, rfl⟩ := Int.eq_ofNat_of_zero_le (show 0 ≤ c by omega)
            obtain ⟨m, rfl⟩ := Int.eq_ofNat_of_zero_le h0
            have hmc : m ≤ cn := by omega
            have hlaid := Laid.replicate (w := w) (hzr (okOf μ) w) c1 m
            have hsplit : ((List.range (cn * ye.size)).map fun k => z.cells[k % z.cells.size]!) = ((List.range (m * ye.size)).map fun k => z.cells[k % z.cells.size]!) ++
                ((List.range (cn * ye.size)).map fun k => z.cells[k % z.cells.size]!).drop (m * ye.size) := by
              conv => lhs; rw [← List.take_append_drop (m * ye.size) ((List.range (cn * ye.size)).map fun k => z.cells[k % z.cells.size]!)]
              congr 1
              rw [← List.map_take, List.take_range]
              have : m * ye.size ≤ cn * ye.size := Nat.mul_le_mul_right _ hmc
              rw [Nat.min_eq_left this]
            obtain ⟨g1, g2⟩ := push_row hh (e := e) hlaid c2 (((List.range (cn * ye.size)).map fun k => z.cells[k % z.cells.size]!).drop (m * ye.size)) w rfl rfl rfl rfl
            rw [← hsplit] at g1 g2
            simp only [List.length_replicate] at g1 g2
            refine ⟨_, _, _, _, .slice (some ⟨w.heap.size, 0, none⟩) m cn, hk, g1, g2, Nat.le_succ _, ?_, ?_⟩
            · have hsz := run_size hT hye w
              have hb1 : ¬ (281474976710656 < (ye.bytes : Int) * (cn : Int)) := by omega
              have hl1 : ¬ ((cn : Int) < (m : Int)) := by omega
              have hn1 : ¬ ((cn : Int) < 0) := by omega
              have hn2 : ¬ ((m : Int) < 0) := by omega
              unfold Instr.makeSlice
              simp [asInt, asIntOf, hd, typeInfo, hi, hi2, hw1, hw2, hb1, hl1, hn1, hn2, askRoom, sizeOf, hi1, newRow]
              have hne : ye.size ≠ 0 := by omega
              by_cases hcn : cn = 0
              · subst hcn; obtain rfl : m = 0 := by omega
                simp [Array.range_zero']
              · have hcz : ¬ (cn * ye.size = 0) := Nat.mul_ne_zero hcn hne
                simp [hcz, hz]
                congr 3
                apply Array.ext'
                simp [Array.toList_range]
            · have := own_new (h := h) (μ := μ) (o := .row e ye.size (List.replicate m ye.zero) 1) (sz := ye.size) (N := cn * ye.size) (m := m) (c := cn) (w.alloc (.cells ((List.range (cn * ye.size)).map fun k => z.cells[k % z.cells.size]!).toArray e)) w.heap.size hmc (by omega) (Nat.le_refl _)
              simpa using this
        · cases hk
      · cases hk
    · cases hk
  · cases hk
end
end Go.Pm
end
