/- What the functions of the program compute, each as a contract: the conditions stand in each statement. -/
import Derived.Test.YtajnbdjipmckpaaPmS1
import Derived.Laws.DeepNot64
import Derived.Shelf.Strings.OnBuilder
import Derived.Test.YtajnbdjipmckpaaPmG3
set_option linter.all false
section
/- Contracts: fields of strings. -/
namespace Go.Proofs
open Go.Pm
set_option maxRecDepth 100000
set_option maxHeartbeats 4000000

def blankN (n : Nat) : Bool := decide (n = 32) || decide (n = 9) || decide (n = 10)
def blank (c : UInt8) : Bool := blankN c.toNat
theorem c69 (n : Nat) : PCall Try.prog 69 [.d (.int .i32 (n : Int))] fun x => x = .d (.bool (blankN n)) := by
  refine PCall.intro Try.tabOk Try.f69 _ Try.func69 rfl (by decide) rfl fun z => ?_
  repeat' first
    | (with_reducible refine AW.seq ?_)
    | ((with_reducible refine AW.region Try.tabOk ?_); (conv => whnf))
    | ((with_reducible refine AW.ret ?_); (conv => whnf))
    | ((with_reducible apply Or.inl); apply Exists.intro; apply And.intro; (focus (intro hg; (conv => whnf); (repeat' first | (with_reducible exact ⟨rfl, rfl⟩) | ((with_reducible refine Own2.data ?_); (conv => whnf)) | (refine ⟨true, _, rfl, ?_⟩; (conv => whnf)) | (refine ⟨false, .nilp, rfl, ?_⟩; (conv => whnf)) | (refine ⟨_, _, by first | fail, ?_⟩; (conv => whnf)) | ((with_reducible apply Or.inl); (refine ⟨rfl, rfl, ?_⟩); (conv => whnf)) | ((with_reducible apply Or.inl); (with_reducible apply And.intro); (focus (simp only [rng]; omega)); (conv => whnf)) | (refine ⟨by first | omega | (simp at hg ⊢; omega) | (simp_all; first | done | fail), ?_⟩; (conv => whnf)) | ((with_reducible refine ACall.id ?_); (refine PCall.call (by first | fail) rfl ?_); (intro x hx; first | subst hx | (obtain ⟨l_, rfl, hl_⟩ := hx.out)); (conv => whnf)) | ((with_reducible apply Or.inr); (with_reducible apply And.intro) <;> (intro hb_; first | (cases hb_; done) | (conv => whnf))) | (intro hlen; (conv => whnf))); done)); (conv => whnf))
    | ((with_reducible apply And.intro); (focus (first | omega | (exact True.intro) | (simp; omega) | (exact Nat.le_of_ble_eq_true rfl) | (exact ⟨rfl, Nat.le_of_ble_eq_true rfl⟩) | (exact ⟨Nat.le_of_ble_eq_true rfl, Nat.le_of_ble_eq_true rfl⟩) | (intro hg; first | (simp; first | done | fail) | (simp at hg ⊢; exact hg) | (simp at hg; exact hg) | exact hg))); (conv => whnf))
  rw [bif_or, bif_or]
  congr 2
  rw [Bool.eq_iff_iff]; simp only [blankN, Bool.or_eq_true, beq_iff_eq, decide_eq_true_eq]; omega

def wordsA : Str → Str → List Str
  | [], cur => if cur = [] then [] else [cur]
  | c :: r, cur => if blank c then (if cur = [] then wordsA r [] else cur :: wordsA r []) else wordsA r (cur ++ [c])
def words (s : Str) : List Str := wordsA s []
def encSpan (p : Nat × Nat) : D := .agg [.int .i64 (p.1 : Int), .int .i64 (p.2 : Int)]
def piece (s : Str) (p : Nat × Nat) : Str := (s.take p.2).drop p.1
theorem wordsA_run (s : Str) (cur : Str) (w : Nat) (h : ∀ j, j < w → j < s.length → blank (s.getD j 0) = false) : wordsA s cur = wordsA (s.drop w) (cur ++ s.take w) := by
  induction w generalizing s cur with
  | zero => simp
  | succ w ih =>
    cases s with
    | nil => simp
    | cons c r =>
      have h0 : blank c = false := h 0 (by omega) (by simp)
      rw [wordsA, h0]
      simp only [Bool.false_eq_true, if_false, List.drop_succ_cons, List.take_succ_cons]
      rw [ih r (cur ++ [c]) (fun j h1 h2 => h (j + 1) (by omega) (by simpa using h2))]
      simp

def curOf (s : Str) (st : Int) (pos : Nat) : Str := if 0 ≤ st then piece s (st.toNat, pos) else []
theorem drop_cons {s : Str} {pos : Nat} (h : pos < s.length) : s.drop pos = s.getD pos 0 :: s.drop (pos + 1) := by
  rw [List.drop_eq_getElem_cons h, List.getD_eq_getElem?_getD, List.getElem?_eq_getElem h]; rfl
theorem piece_ne {s : Str} {a b : Nat} (h : a < b) (hb : b ≤ s.length) : piece s (a, b) ≠ [] := by
  unfold piece
  rw [Ne, List.drop_eq_nil_iff, List.length_take]; omega
theorem piece_add {s : Str} {a b w : Nat} (h : a ≤ b) (hb : b + w ≤ s.length) : piece s (a, b + w) = piece s (a, b) ++ (s.drop b).take w := by
  unfold piece
  rw [List.take_add, List.drop_append]
  congr 1
  rw [List.length_take]
  have : a - min b s.length = 0 := by omega
  rw [this]; rfl
theorem rune_blank {s : Str} {pos : Nat} (h : pos < s.length) : (blankN (runeAt s pos).1 = blank (s.getD pos 0)) ∧ (blank (s.getD pos 0) = true → (runeAt s pos).2 = 1) ∧
    (blank (s.getD pos 0) = false → ∀ j, pos ≤ j → j < pos + (runeAt s pos).2 → blank (s.getD j 0) = false) := by
  by_cases hc : (s.getD pos 0).toNat < 128
  · rw [rune_low h hc]
    refine ⟨rfl, fun _ => rfl, fun hb j h1 h2 => ?_⟩
    have h2 : j < pos + 1 := h2
    have : j = pos := by omega
    rw [this]; exact hb
  · have hh := rune_high h (by omega)
    have hf : ∀ n : Nat, 128 ≤ n → blankN n = false := fun n hn => by
      simp only [blankN, Bool.or_eq_false_iff, decide_eq_false_iff_not]; omega
    have h1 : blank (s.getD pos 0) = false := hf _ (by omega)
    exact ⟨by rw [h1]; exact hf _ hh.rune, fun h => (by rw [h1] at h; cases h), fun _ j h2 h3 => hf _ (hh.bytes j h2 h3)⟩
theorem set_fill {α β : Type} {S : List α} {k : Nat} (h : k < S.length) (f : α → β) (z : β) (d : α) : ((S.take k).map f ++ List.replicate (S.length - k) z).set k (f (S.getD k d)) = (S.take (k + 1)).map f ++ List.replicate (S.length - (k + 1)) z := by
  rw [take_succ_getD S k d h, List.map_append, List.append_assoc, List.set_append_right _ _ (by rw [List.length_map, List.length_take]; omega)]
  congr 1
  have e : S.length - k = (S.length - (k + 1)) + 1 := by omega
  rw [List.length_map, List.length_take, Nat.min_eq_left (by omega), Nat.sub_self, e, List.replicate_succ]
  rfl
structure FInv (s : Str) (pos : Nat) (S : List (Nat × Nat)) (st : Int) : Prop where
  hi : pos ≤ s.length
  hst : 0 ≤ st → st < pos
  hlo : -1000000000001 ≤ st
  hwd : words s = S.map (piece s) ++ wordsA (s.drop pos) (curOf s st pos)
  hSl : S.length ≤ pos
  hSp : ∀ p ∈ S, p.1 ≤ p.2 ∧ p.2 ≤ s.length
theorem FInv.blank1 {s : Str} (hs : s.length ≤ 1000000000000) {pos : Nat} {S : List (Nat × Nat)} {st : Int} (h : FInv s pos S st) (hp : pos < s.length) (hb : blankN (runeAt s pos).1 = true) (h0 : 0 ≤ st) : FInv s (pos + (runeAt s pos).2) (S ++ [(st.toNat, pos)]) (-1 - st) := by
  obtain ⟨r1, r2, _⟩ := rune_blank hp
  rw [hb] at r1
  rw [r2 r1.symm]
  have hlt := h.hst h0
  refine ⟨hp, fun h => by omega, by have := h.hi; omega, ?_, by have := h.hSl; simp; omega, fun p hpm => ?_⟩
  · rw [h.hwd, drop_cons hp, wordsA, ← r1, if_pos rfl]
    have hc : curOf s st pos = piece s (st.toNat, pos) := if_pos h0
    rw [hc, if_neg (piece_ne (by omega) h.hi)]
    have : curOf s (-1 - st) (pos + 1) = [] := if_neg (by omega)
    rw [this]; simp
  · rcases List.mem_append.1 hpm with hm | hm
    · exact h.hSp p hm
    · rw [List.mem_singleton.1 hm]; exact ⟨by show st.toNat ≤ pos; omega, h.hi⟩
theorem FInv.blank2 {s : Str} {pos : Nat} {S : List (Nat × Nat)} {st : Int} (h : FInv s pos S st) (hp : pos < s.length) (hb : blankN (runeAt s pos).1 = true) (h0 : st < 0) : FInv s (pos + (runeAt s pos).2) S st := by
  obtain ⟨r1, r2, _⟩ := rune_blank hp
  rw [hb] at r1
  rw [r2 r1.symm]
  refine ⟨hp, fun h => by omega, h.hlo, ?_, by have := h.hSl; omega, h.hSp⟩
  rw [h.hwd, drop_cons hp, wordsA, ← r1, if_pos rfl]
  have hc : ∀ q, curOf s st q = [] := fun q => if_neg (by omega)
  rw [hc, hc, if_pos rfl]
theorem FInv.word1 {s : Str} {pos : Nat} {S : List (Nat × Nat)} {st : Int} (h : FInv s pos S st) (hp : pos < s.length) (hb : blankN (runeAt s pos).1 = false) (h0 : st < 0) : FInv s (pos + (runeAt s pos).2) S (pos : Int) := by
  obtain ⟨r1, _, r3⟩ := rune_blank hp
  rw [hb] at r1
  have hs2 := rune_step hp
  refine ⟨hs2.2, fun _ => by omega, by omega, ?_, by have := h.hSl; omega, h.hSp⟩
  have hc : curOf s st pos = [] := if_neg (by omega)
  rw [h.hwd, hc, wordsA_run _ _ (runeAt s pos).2 (fun j h1 h2 => by
    rw [List.getD_eq_getElem?_getD, List.getElem?_drop, ← List.getD_eq_getElem?_getD]
    exact r3 r1.symm (pos + j) (by omega) (by omega)), List.drop_drop]
  have hc2 : curOf s (pos : Int) (pos + (runeAt s pos).2) = (s.drop pos).take (runeAt s pos).2 := by
    unfold curOf
    rw [if_pos (by omega), Int.toNat_natCast, piece_add (Nat.le_refl _) hs2.2]
    have : piece s (pos, pos) = [] := by unfold piece; rw [List.drop_eq_nil_iff, List.length_take]; omega
    rw [this]; rfl
  rw [hc2]; simp
theorem FInv.word2 {s : Str} {pos : Nat} {S : List (Nat × Nat)} {st : Int} (h : FInv s pos S st) (hp : pos < s.length) (hb : blankN (runeAt s pos).1 = false) (h0 : 0 ≤ st) : FInv s (pos + (runeAt s pos).2) S st := by
  obtain ⟨r1, _, r3⟩ := rune_blank hp
  rw [hb] at r1
  have hs2 := rune_step hp
  have hlt := h.hst h0
  refine ⟨hs2.2, fun _ => by omega, h.hlo, ?_, by have := h.hSl; omega, h.hSp⟩
  have hc : ∀ q, curOf s st q = piece s (st.toNat, q) := fun q => if_pos h0
  rw [h.hwd, hc, hc, wordsA_run _ _ (runeAt s pos).2 (fun j h1 h2 => by
    rw [List.getD_eq_getElem?_getD, List.getElem?_drop, ← List.getD_eq_getElem?_getD]
    exact r3 r1.symm (pos + j) (by omega) (by omega)), List.drop_drop, piece_add (by omega) hs2.2]
theorem FInv.end1 {s : Str} {pos : Nat} {S : List (Nat × Nat)} {st : Int} (h : FInv s pos S st) (hp : s.length ≤ pos) (h0 : 0 ≤ st) : words s = (S ++ [(st.toNat, s.length)]).map (piece s) := by
  have he : pos = s.length := Nat.le_antisymm h.hi hp
  subst he
  have hlt := h.hst h0
  have hc : curOf s st s.length = piece s (st.toNat, s.length) := if_pos h0
  rw [h.hwd, List.drop_length, hc, wordsA, if_neg (piece_ne (by omega) (Nat.le_refl _))]; simp
theorem FInv.end2 {s : Str} {pos : Nat} {S : List (Nat × Nat)} {st : Int} (h : FInv s pos S st) (hp : s.length ≤ pos) (h0 : st < 0) : words s = S.map (piece s) := by
  have he : pos = s.length := Nat.le_antisymm h.hi hp
  subst he
  have hc : curOf s st s.length = [] := if_neg (by omega)
  rw [h.hwd, List.drop_length, hc, wordsA, if_pos rfl]; simp
theorem c68 (s : Str) (hs : s.length ≤ 1000000000000) : PCall Try.prog 68 [.d (.str s), .d (.fn 69)] fun x => x = .d (encStrs (words s)) := by
  refine PCall.strs ?_
  refine PCall.intro Try.tabOk Try.f68 _ Try.func68 rfl (by decide) rfl fun z => ?_
  repeat' first
    | (with_reducible refine AW.seq ?_)
    | ((with_reducible refine AW.region Try.tabOk ?_); (conv => whnf))
    | ((with_reducible refine AW.block ?_))
    | ((with_reducible refine And.intro (Side.out ?_) ?_); rotate_left; (conv => whnf); rotate_right)
  · exact ⟨by decide⟩
  refine AW.loopS (X := Nat × List (Nat × Nat) × Int) [14, 0, 1] [] (fun x => [(6, .d (.int .i64 x.2.2)), (5, .own 0 (x.2.1.length + 1) 2)]) (fun x => [(1, .siter s x.1), (0, .row 125 2 (x.2.1.map encSpan) (x.2.1.length + 1))]) (fun _ => 2)
    (fun x => FInv s x.1 x.2.1 x.2.2) (fun x => s.length - x.1) (0, [], -1)
    ⟨Nat.zero_le _, fun h => absurd h (by decide), by decide, rfl, Nat.le_refl _, fun p h => by cases h⟩ (fun _ _ => rfl) (by refine ⟨rfl, rfl, rfl, ?_, ?_⟩ <;> repeat' (first | exact trivial | exact OLe.refl _ | exact AV.le_refl _ | apply And.intro)) ?_
  intro ⟨pos, S, st⟩ hF
  dsimp only at hF
  have hi := hF.hi
  have hSl := hF.hSl
  repeat' first
    | (with_reducible refine AW.seq ?_)
    | ((with_reducible refine AW.region Try.tabOk ?_); (conv => whnf))
    | ((with_reducible refine AW.block ?_))
    | ((with_reducible refine AW.exit ?_); (conv => whnf))
    | ((with_reducible refine AW.skip ?_); (conv => whnf))
    | ((with_reducible refine AW.cond ?_); (conv => whnf))
    | ((with_reducible refine Own2.own ?_); (conv => whnf))
    | ((with_reducible refine ACall.id ?_); (refine PCall.call (by first | exact c69 _) rfl ?_); (intro x hx; first | subst hx | (obtain ⟨l_, rfl, hl_⟩ := hx.out)); (conv => whnf))
    | ((with_reducible apply And.intro); (focus (first | omega | (exact True.intro) | (simp; omega) | (exact Nat.le_of_ble_eq_true rfl) | (exact ⟨rfl, Nat.le_of_ble_eq_true rfl⟩) | (exact ⟨Nat.le_of_ble_eq_true rfl, Nat.le_of_ble_eq_true rfl⟩) | (intro hg; first | (simp; first | done | fail) | (simp at hg ⊢; exact hg) | (simp at hg; exact hg) | exact hg))); (conv => whnf))
    | ((with_reducible apply And.intro) <;> (intro hb; (try simp at hb); (try (exfalso; first | omega | (simp_all; first | done | fail))); (try (conv => whnf))))
    | (intro hlen; (conv => whnf))
    | ((with_reducible refine And.intro (Side.out ?_) ?_); rotate_left; (conv => whnf); rotate_right)
  · exact ⟨rfl, by simp; omega, by simp [maxLen]; omega⟩
  · have hp : pos < s.length := by assumption
    have h0 : 0 ≤ st := by assumption
    have hlt := hF.hst h0
    refine .mk (pos + (runeAt s pos).2, S ++ [(st.toNat, pos)], -1 - st) (hF.blank1 hs hp (by assumption) h0) (by have := rune_step hp; show s.length - (pos + (runeAt s pos).2) < s.length - pos; omega) ?_
    have hx : bits .xor .i64 (-1) st = -1 - st := by
      have := i64_not st.toNat (by omega)
      rwa [Int.toNat_of_nonneg h0] at this
    exact ⟨rfl, rfl, rfl, ⟨OLe.refl _, OLe.of (by
      show AObj.row 125 2 (S.map encSpan ++ [.agg [.int .i64 st, .int .i64 (pos : Int)]]) (S.length + 1 + 1) = AObj.row 125 2 ((S ++ [(st.toNat, pos)]).map encSpan) ((S ++ [(st.toNat, pos)]).length + 1)
      simp [encSpan, Int.toNat_of_nonneg h0]), trivial⟩, ⟨AV.le_of_eq (by show AV.d (.int .i64 (bits .xor .i64 (-1) st)) = _; rw [hx]), AV.le_of_eq (by
      show AV.own 0 (S.length + 1 + 1) 2 = AV.own 0 ((S ++ [(st.toNat, pos)]).length + 1) 2
      simp), AV.le_refl _, AV.le_refl _, AV.le_refl _, trivial⟩, rfl⟩
  · have hp : pos < s.length := by assumption
    exact .mk (pos + (runeAt s pos).2, S, st) (hF.blank2 hp (by assumption) (by assumption)) (by have := rune_step hp; show s.length - (pos + (runeAt s pos).2) < s.length - pos; omega) (by refine ⟨rfl, rfl, rfl, ?_, ?_, rfl⟩ <;> repeat' (first | exact trivial | exact OLe.refl _ | exact AV.le_refl _ | apply And.intro))
  · have hp : pos < s.length := by assumption
    exact .mk (pos + (runeAt s pos).2, S, (pos : Int)) (hF.word1 hp (by assumption) (by assumption)) (by have := rune_step hp; show s.length - (pos + (runeAt s pos).2) < s.length - pos; omega) (by refine ⟨rfl, rfl, rfl, ?_, ?_, rfl⟩ <;> repeat' (first | exact trivial | exact OLe.refl _ | exact AV.le_refl _ | apply And.intro))
  · have hp : pos < s.length := by assumption
    exact .mk (pos + (runeAt s pos).2, S, st) (hF.word2 hp (by assumption) (by assumption)) (by have := rune_step hp; show s.length - (pos + (runeAt s pos).2) < s.length - pos; omega) (by refine ⟨rfl, rfl, rfl, ?_, ?_, rfl⟩ <;> repeat' (first | exact trivial | exact OLe.refl _ | exact AV.le_refl _ | apply And.intro))
  · exact ⟨rfl, by simp; omega, by simp [maxLen]; omega⟩
  · exact ⟨by first | (simp; done) | (simp; omega), by simp, by simp; omega, by simp [maxLen]; omega⟩
  · have h0 : 0 ≤ st := by assumption
    have hend := hF.end1 (by assumption) h0
    obtain ⟨S', hS'⟩ : ∃ S', S' = S ++ [(st.toNat, s.length)] := ⟨_, rfl⟩
    have hlS : S'.length ≤ s.length + 1 := by rw [hS']; simp; omega
    have hlS2 : S'.length = S.length + 1 := by rw [hS']; simp
    have hSp : ∀ p ∈ S', p.1 ≤ p.2 ∧ p.2 ≤ s.length := by
      rw [hS']
      intro p hpm
      have := hF.hst h0
      rcases List.mem_append.1 hpm with hm | hm
      · exact hF.hSp p hm
      · rw [List.mem_singleton.1 hm]; exact ⟨by show st.toNat ≤ s.length; omega, Nat.le_refl _⟩
    rw [← hS'] at hend
    refine AW.loopS (X := Nat) [9, 0] [] (fun k => [(49, .d (.int .i64 (k : Int))), (47, .own 0 (S.length + 1 + 1) 2), (48, .d (.int .i64 (S'.length : Int)))]) (fun k => [(3, .row 9 1 ((S'.take k).map (fun p => D.str (piece s p)) ++ List.replicate (S'.length - k) (.str [])) 1), (0, .row 125 2 (S'.map encSpan) (S.length + 1 + 1))]) (fun _ => 4)
      (fun k => k ≤ S'.length) (fun k => S'.length - k) 0 (Nat.zero_le _) (fun _ _ => rfl) ⟨rfl, rfl, rfl, ⟨OLe.of (by
        show AObj.row 9 1 (List.replicate (((S.map encSpan ++ [D.agg [.int .i64 st, .int .i64 (s.length : Int)]]).length : Int) : Int).toNat (D.str [])) 1 = _
        rw [hS']; simp), OLe.of (by
        show AObj.row 125 2 (S.map encSpan ++ [D.agg [.int .i64 st, .int .i64 (s.length : Int)]]) (S.length + 1 + 1) = _
        rw [hS']; simp [encSpan, Int.toNat_of_nonneg h0]), trivial⟩, ⟨AV.le_refl _, AV.le_refl _, AV.le_of_eq (by show AV.d (.int .i64 (((S.map encSpan ++ [D.agg [.int .i64 st, .int .i64 (s.length : Int)]]).length : Int) : Int)) = _; rw [hlS2]; simp), AV.le_refl _, AV.le_refl _, trivial⟩⟩ ?_
    intro k hk
    repeat' first
      | (with_reducible refine AW.seq ?_)
      | ((with_reducible refine AW.region Try.tabOk ?_); (conv => whnf))
      | ((with_reducible refine AW.ret ?_); (conv => whnf))
      | ((with_reducible refine AW.block ?_))
      | ((with_reducible refine AW.exit ?_); (conv => whnf))
      | ((with_reducible refine AW.skip ?_); (conv => whnf))
      | ((with_reducible refine AW.cond ?_); (conv => whnf))
      | (refine ⟨_, ⟨rfl, getM (by first | omega | (simp; omega))⟩, ?_⟩; (conv => whnf))
      | ((with_reducible apply Or.inl); (with_reducible apply And.intro); (focus (simp only [rng]; omega)); (conv => whnf))
      | ((with_reducible apply And.intro); (focus (first | omega | (exact True.intro) | (simp; omega) | (exact Nat.le_of_ble_eq_true rfl) | (exact ⟨rfl, Nat.le_of_ble_eq_true rfl⟩) | (exact ⟨Nat.le_of_ble_eq_true rfl, Nat.le_of_ble_eq_true rfl⟩) | (intro hg; first | (simp; first | done | fail) | (simp at hg ⊢; exact hg) | (simp at hg; exact hg) | exact hg))); (conv => whnf))
      | ((with_reducible apply And.intro) <;> (intro hb; (try simp at hb); (try (exfalso; first | omega | (simp_all; first | done | fail))); (try (conv => whnf))))
      | ((with_reducible refine And.intro (Side.out ?_) ?_); rotate_left; (conv => whnf); rotate_right)
    all_goals try (have hk2 : k < S'.length := by omega)
    all_goals try (have hp := hSp (S'.getD k default) (by rw [List.getD_eq_getElem?_getD, List.getElem?_eq_getElem hk2]; simp))
    · exact ⟨by omega, by show ((S'.getD (k : Int).toNat default).1 : Int) ≤ _; exact Int.ofNat_le.2 hp.1, by show ((S'.getD (k : Int).toNat default).2 : Int) ≤ _; exact Int.ofNat_le.2 hp.2⟩
    · refine .mk (k + 1) hk2 (by show S'.length - (k + 1) < S'.length - k; omega) ⟨rfl, rfl, rfl, ⟨OLe.of (by
        show AObj.row 9 1 (((S'.take k).map (fun p => D.str (piece s p)) ++ List.replicate (S'.length - k) (D.str [])).set (k : Int).toNat (D.str (piece s (S'.getD k default)))) 1 = AObj.row 9 1 ((S'.take (k + 1)).map (fun p => D.str (piece s p)) ++ List.replicate (S'.length - (k + 1)) (D.str [])) 1
        rw [Int.toNat_natCast, set_fill hk2 _ _ default]), OLe.refl _, trivial⟩, ⟨AV.le_refl _, AV.le_refl _, AV.le_refl _, AV.le_refl _, AV.le_refl _, trivial⟩, rfl⟩
    · have he : k = S'.length := by omega
      subst he
      show SlRes 1 _ (.d (.list 1 _))
      rw [List.take_length, Nat.sub_self, List.replicate_zero, List.append_nil, hend]
      rw [show (S'.map (piece s)).map D.str = S'.map (fun p => D.str (piece s p)) by simp]
      exact .row
  · exact ⟨by first | (simp; done) | (simp; omega), by simp, by simp; omega, by simp [maxLen]; omega⟩
  · have h0 : st < 0 := by assumption
    have hend := hF.end2 (by assumption) h0
    obtain ⟨S', hS'⟩ : ∃ S', S' = S := ⟨_, rfl⟩
    have hlS : S'.length ≤ s.length + 1 := by rw [hS'];  omega
    have hlS2 : S'.length = S.length := by rw [hS']
    have hSp : ∀ p ∈ S', p.1 ≤ p.2 ∧ p.2 ≤ s.length := by rw [hS']; exact hF.hSp
    rw [← hS'] at hend
    refine AW.loopS (X := Nat) [9, 0] [] (fun k => [(49, .d (.int .i64 (k : Int))), (47, .own 0 (S.length + 1) 2), (48, .d (.int .i64 (S'.length : Int)))]) (fun k => [(2, .row 9 1 ((S'.take k).map (fun p => D.str (piece s p)) ++ List.replicate (S'.length - k) (.str [])) 1), (0, .row 125 2 (S'.map encSpan) (S.length + 1))]) (fun _ => 3)
      (fun k => k ≤ S'.length) (fun k => S'.length - k) 0 (Nat.zero_le _) (fun _ _ => rfl) ⟨rfl, rfl, rfl, ⟨OLe.of (by
        show AObj.row 9 1 (List.replicate (((S.map encSpan).length : Int) : Int).toNat (D.str [])) 1 = _
        rw [hS']; simp), OLe.of (by
        show AObj.row 125 2 (S.map encSpan) (S.length + 1) = _
        rw [hS']), trivial⟩, ⟨AV.le_refl _, AV.le_refl _, AV.le_of_eq (by show AV.d (.int .i64 (((S.map encSpan).length : Int) : Int)) = _; rw [hlS2]; simp), AV.le_refl _, AV.le_refl _, trivial⟩⟩ ?_
    intro k hk
    repeat' first
      | (with_reducible refine AW.seq ?_)
      | ((with_reducible refine AW.region Try.tabOk ?_); (conv => whnf))
      | ((with_reducible refine AW.ret ?_); (conv => whnf))
      | ((with_reducible refine AW.block ?_))
      | ((with_reducible refine AW.exit ?_); (conv => whnf))
      | ((with_reducible refine AW.skip ?_); (conv => whnf))
      | ((with_reducible refine AW.cond ?_); (conv => whnf))
      | (refine ⟨_, ⟨rfl, getM (by first | omega | (simp; omega))⟩, ?_⟩; (conv => whnf))
      | ((with_reducible apply Or.inl); (with_reducible apply And.intro); (focus (simp only [rng]; omega)); (conv => whnf))
      | ((with_reducible apply And.intro); (focus (first | omega | (exact True.intro) | (simp; omega) | (exact Nat.le_of_ble_eq_true rfl) | (exact ⟨rfl, Nat.le_of_ble_eq_true rfl⟩) | (exact ⟨Nat.le_of_ble_eq_true rfl, Nat.le_of_ble_eq_true rfl⟩) | (intro hg; first | (simp; first | done | fail) | (simp at hg ⊢; exact hg) | (simp at hg; exact hg) | exact hg))); (conv => whnf))
      | ((with_reducible apply And.intro) <;> (intro hb; (try simp at hb); (try (exfalso; first | omega | (simp_all; first | done | fail))); (try (conv => whnf))))
      | ((with_reducible refine And.intro (Side.out ?_) ?_); rotate_left; (conv => whnf); rotate_right)
    all_goals try (have hk2 : k < S'.length := by omega)
    all_goals try (have hp := hSp (S'.getD k default) (by rw [List.getD_eq_getElem?_getD, List.getElem?_eq_getElem hk2]; simp))
    · exact ⟨by omega, by show ((S'.getD (k : Int).toNat default).1 : Int) ≤ _; exact Int.ofNat_le.2 hp.1, by show ((S'.getD (k : Int).toNat default).2 : Int) ≤ _; exact Int.ofNat_le.2 hp.2⟩
    · refine .mk (k + 1) hk2 (by show S'.length - (k + 1) < S'.length - k; omega) ⟨rfl, rfl, rfl, ⟨OLe.of (by
        show AObj.row 9 1 (((S'.take k).map (fun p => D.str (piece s p)) ++ List.replicate (S'.length - k) (D.str [])).set (k : Int).toNat (D.str (piece s (S'.getD k default)))) 1 = AObj.row 9 1 ((S'.take (k + 1)).map (fun p => D.str (piece s p)) ++ List.replicate (S'.length - (k + 1)) (D.str [])) 1
        rw [Int.toNat_natCast, set_fill hk2 _ _ default]), OLe.refl _, trivial⟩, ⟨AV.le_refl _, AV.le_refl _, AV.le_refl _, AV.le_refl _, AV.le_refl _, trivial⟩, rfl⟩
    · have he : k = S'.length := by omega
      subst he
      show SlRes 1 _ (.d (.list 1 _))
      rw [List.take_length, Nat.sub_self, List.replicate_zero, List.append_nil, hend]
      rw [show (S'.map (piece s)).map D.str = S'.map (fun p => D.str (piece s p)) by simp]
      exact .row
end Go.Proofs
end
section
/- Contracts: joining strings (by the shelf's contract), folding names. -/
namespace Go.Proofs
open Go.Pm Go.Shelf
set_option maxRecDepth 100000
set_option maxHeartbeats 4000000

def Try.lays156_ren : Ren where
  f := fun x => match x with
    | 156 => 70
    | 165 => 98
    | 166 => 99
    | 169 => 100
    | 240 => 111
    | 241 => 112
    | 276 => 120
    | 277 => 121
    | n => n
  t := fun x => match x with
    | 31 => 39
    | 9 => 9
    | 3 => 3
    | 4 => 4
    | 0 => 0
    | 20 => 20
    | 72 => 128
    | 76 => 132
    | 70 => 126
    | 37 => 101
    | 75 => 131
    | 127 => 148
    | 164 => 152
    | 5 => 5
    | 80 => 134
    | n => n
  g := fun x => x
theorem Try.lays156 : Lays.n156 Try.prog Try.lays156_ren where
  mixed := Try.mixed
  f156 := Eq.trans Try.func70 (congrArg some (by kernel_rfl))
  f165 := Eq.trans Try.func98 (congrArg some (by kernel_rfl))
  f166 := Eq.trans Try.func99 (congrArg some (by kernel_rfl))
  f169 := Eq.trans Try.func100 (congrArg some (by kernel_rfl))
  f240 := Eq.trans Try.func111 (congrArg some (by kernel_rfl))
  f241 := Eq.trans Try.func112 (congrArg some (by kernel_rfl))
  f276 := Eq.trans Try.func120 (congrArg some (by kernel_rfl))
  f277 := Eq.trans Try.func121 (congrArg some (by kernel_rfl))
  t0 := Try.underlying0
  a0 := Try.isAgg0
  z0 := Try.sizeOf0
  v0 := Try.zeroValue0
  t3 := Try.underlying3
  a3 := Try.isAgg3
  z3 := Try.sizeOf3
  v3 := Try.zeroValue3
  t4 := Try.underlying4
  a4 := Try.isAgg4
  z4 := Try.sizeOf4
  v4 := Try.zeroValue4
  t9 := Try.underlying9
  a9 := Try.isAgg9
  z9 := Try.sizeOf9
  v9 := Try.zeroValue9
  t20 := Try.underlying20
  a20 := Try.isAgg20
  z20 := Try.sizeOf20
  v20 := Try.zeroValue20
  t31 := Try.underlying39
  a31 := Try.isAgg39
  z31 := Try.sizeOf39
  v31 := Try.zeroValue39
  t37 := Try.underlying101
  a37 := Try.isAgg101
  z37 := Try.sizeOf101
  v37 := Try.zeroValue101
  t70 := Try.underlying126
  a70 := Try.isAgg126
  z70 := Try.sizeOf126
  v70 := Try.zeroValue126
  t72 := Try.underlying128
  a72 := Try.isAgg128
  z72 := Try.sizeOf128
  v72 := Try.zeroValue128
  t75 := Try.underlying131
  a75 := Try.isAgg131
  z75 := Try.sizeOf131
  v75 := Try.zeroValue131
  t76 := Try.underlying132
  a76 := Try.isAgg132
  z76 := Try.sizeOf132
  v76 := Try.zeroValue132
  t127 := Try.underlying148
  a127 := Try.isAgg148
  z127 := Try.sizeOf148
  v127 := Try.zeroValue148
  t164 := Try.underlying152
  a164 := Try.isAgg152
  z164 := Try.sizeOf152
  v164 := Try.zeroValue152
theorem Try.extra156 : Builder.Extra Try.prog Try.lays156_ren where
  sizeBuilder := by kernel_rfl
  liesBuilder := by kernel_rfl
  t5 := Try.underlying5
  a5 := Try.isAgg5
  z5 := Try.sizeOf5
  v5 := Try.zeroValue5
  infoByte := by kernel_rfl
  cellsByte := by kernel_rfl
  sizeByte := by kernel_rfl
  neB5 := by decide

/-- A contract of the library's, of data, that turns nothing that was there. -/
theorem PCall.below {P : Program} {f : FuncId} {args : List AV} {R : AV → Prop} (hpl : PlainFn P f)
    (h : ∀ (ok : Nat → Prop) (w : World) (vs : List Value), vs.length = args.length → (∀ (i : Nat) (d : D) (v : Value), args[i]? = some (.d d) → vs[i]? = some v → DRel ok w d v) →
      Calls P f vs.toArray w fun e w' => ∃ (x : D) (v : Value), e = .returned v ∧ R (.d x) ∧ Go.RowKit.Below w.heap.size w w' ∧ DRel ok w' x v) : PCall P f args R := by
  refine ⟨fun μ w vs hh hl hr => .inl ⟨hpl, ?_⟩⟩
  refine (h (okOf μ) w vs hl fun i d v h1 h2 => ?_).mono fun e w' ⟨x, v, he, hR, hb, hd⟩ => ?_
  · have := hr i _ v h1 h2
    cases this; assumption
  · have hn : ∀ i, μ.pos i = none := fun i => hh.hi i (Nat.zero_le i)
    refine ⟨.d x, Heap.none, μ, v, he, ⟨rfl, hR⟩, ⟨hh.outs, fun k hk => hh.fresh k (Nat.le_trans hb.size hk), fun i => ?_, hh.hi, hh.inj, fun i bd k hi => (by rw [hn i] at hi; cases hi)⟩, ⟨hb.os, hb.tape, hb.output, hb.size, rfl, fun k hk _ => hb.block k hk, fun i bd' hi _ => absurd hi (Nat.not_lt_zero i), fun _ _ h => h⟩, Nat.le_refl _, .d _ _ hd⟩
    show μ.pos i = none
    exact hn i

def joinS (L : List Str) (sep : Str) : Str := Lib.join L sep
theorem c70 (L : List Str) (sep : Str) (h1 : L.length ≤ 140737488355328) (h2 : (joinS L sep).length ≤ 140737488355328) : PCall Try.prog 70 [.d (encStrs L), .d (.str sep)] fun x => x = .d (.str (joinS L sep)) := by
  refine PCall.below ⟨Try.f70, Try.func70, by decide, rfl⟩ fun ok w vs hl hr => ?_
  match vs, hl with
  | [a, b], _ =>
    have h0 := hr 0 _ a rfl rfl
    have hb := hr 1 _ b rfl rfl
    cases hb
    have hlen : (joinS L sep).length ≤ maxLen := by simp only [maxLen]; omega
    have hxs : (L.map fun s : Str => (⟨s.toArray⟩ : ByteArray)).map (fun x => x.data.toList) = L := by
      rw [List.map_map]; simp [Function.comp_def]
    have hsep : (⟨sep.toArray⟩ : ByteArray).data.toList = sep := by simp
    have fin : ∀ (e : Ending) (w' : World), (e = .returned (.string ⟨(Lib.join ((L.map fun s : Str => (⟨s.toArray⟩ : ByteArray)).map (fun x => x.data.toList)) (⟨sep.toArray⟩ : ByteArray).data.toList).toArray⟩) ∧ Go.RowKit.Below w.heap.size w w') →
        ∃ (x : D) (v : Value), e = .returned v ∧ (AV.d x = .d (.str (joinS L sep))) ∧ Go.RowKit.Below w.heap.size w w' ∧ DRel ok w' x v := by
      intro e w' ⟨he, hbl⟩
      rw [hxs, hsep] at he
      exact ⟨_, _, he, rfl, hbl, .str _ hlen⟩
    cases h0; rename_i h0
    cases L with
    | nil =>
      have h0' : DRel ok w (.list 1 []) a := h0
      cases h0' with
      | empty sz bb c hc =>
        exact (Any.strings_Join_none Try.lays156 Try.extra156 bb c ⟨sep.toArray⟩ w).mono fun e w' ⟨he, hw⟩ => fin e w' ⟨he, hw ▸ Go.RowKit.Below.refl _ _⟩
      | list sz l a c vs hl hc hok hsz hone hcell h =>
        exact (Any.strings_Join_none Try.lays156 Try.extra156 _ c ⟨sep.toArray⟩ w).mono fun e w' ⟨he, hw⟩ => fin e w' ⟨he, hw ▸ Go.RowKit.Below.refl _ _⟩
    | cons s0 r =>
      have hne : tabl (s0 :: r).length (fun i => D.str ((s0 :: r).getD i [])) = (s0 :: r).map D.str := by
        apply List.ext_getElem?
        intro i
        by_cases hi : i < (s0 :: r).length
        · rw [tabl_get _ _ _ hi, List.getElem?_map, List.getElem?_eq_getElem hi, List.getD_eq_getElem?_getD, List.getElem?_eq_getElem hi]; rfl
        · rw [List.getElem?_eq_none (by rw [tabl_length]; omega), List.getElem?_eq_none (by rw [List.length_map]; omega)]
      rw [hne] at h0
      generalize hL : (s0 :: r).map D.str = l at h0
      cases h0 with
      | empty sz bb c hc => simp at hL
      | list sz l a c vs hlc hc hok hsz hone hcell h =>
        have hll : l.length = (s0 :: r).length := by rw [← hL]; simp
        have hget : ∀ (j : Nat) (s : Str), (s0 :: r)[j]? = some s → w.cell? (a.add (j * 1 + 0)) = some (.string ⟨s.toArray⟩) := by
          intro j s hs
          have hj : l[j]? = some (.str s) := by rw [← hL, List.getElem?_map, hs]; rfl
          have h1 := hcell j _ 0 _ hj rfl
          have h2 := h j _ 0 _ hj rfl
          cases hv : vs j 0 <;> rw [hv] at h2 <;> cases h2
          rw [h1, hv]
        have ha0 := hget 0 s0 rfl
        obtain ⟨bk, o, sp⟩ := a
        have hsp : sp = none := by
          have : (⟨bk, o, sp⟩ : Addr).add (0 * 1 + 0) = ⟨bk, o, sp⟩ := by simp [Addr.add]
          rw [this] at ha0
          cases sp with
          | none => rfl
          | some q =>
            unfold World.cell? at ha0
            split at ha0
            · simp at ha0
            · cases ha0
        subst hsp
        have hbk : bk < w.heap.size := World.block_lt_of_cell? w ⟨bk, o, none⟩ (by simpa [Addr.add] using ha0)
        have hcells : ∀ (j : Nat) x, ((s0 :: r).map fun s : Str => (⟨s.toArray⟩ : ByteArray))[j]? = some x → w.cell? ⟨bk, o + j, none⟩ = some (.string x) := by
          intro j x hx
          rw [List.getElem?_map, Option.map_eq_some_iff] at hx
          obtain ⟨s, hs, rfl⟩ := hx
          have := hget j s hs
          rwa [Nat.mul_one, Nat.add_zero, add_lit] at this
        have hll2 : l.length = ((s0 :: r).map fun s : Str => (⟨s.toArray⟩ : ByteArray)).length := by rw [hll]; simp
        rw [hll2]
        exact (Any.strings_Join Try.lays156 Try.extra156 bk o c ((s0 :: r).map fun s : Str => (⟨s.toArray⟩ : ByteArray)) ⟨sep.toArray⟩ w hcells hbk (by rw [List.length_map]; exact h1) (by rw [← hll2]; exact hlc)
          (by rw [hxs, hsep]; exact h2)).mono fin

def lowB (c : UInt8) : UInt8 := if 65 ≤ c.toNat ∧ c.toNat ≤ 90 then c + 32 else c
def foldS (s : Str) : Str := (joinS (words s) [32]).map lowB
def low1 (J : Str) (i : Nat) : Str := (J.take i).map lowB ++ J.drop i
theorem low1_len (J : Str) (i : Nat) : (low1 J i).length = J.length := by simp [low1]; omega
theorem low1_get {J : Str} {i : Nat} (h : i < J.length) : (low1 J i).getD i default = J.getD i 0 := by
  unfold low1
  rw [List.getD_eq_getElem?_getD, List.getElem?_append_right (by rw [List.length_map, List.length_take]; omega)]
  simp [List.getD_eq_getElem?_getD, h, Nat.min_eq_left (Nat.le_of_lt h)]
theorem low1_set {J : Str} {i : Nat} (h : i < J.length) : (low1 J i).set i (lowB (J.getD i 0)) = low1 J (i + 1) := by
  unfold low1
  rw [List.set_append_right _ _ (by rw [List.length_map, List.length_take]; omega), take_succ_getD J i 0 h, List.map_append, List.append_assoc]
  congr 1
  rw [List.length_map, List.length_take, Nat.min_eq_left (by omega), Nat.sub_self, drop_cons h]
  rfl
theorem low1_stay {J : Str} {i : Nat} (h : i < J.length) (hb : lowB (J.getD i 0) = J.getD i 0) : low1 J i = low1 J (i + 1) := by
  rw [← low1_set h, hb]
  apply List.ext_getElem?
  intro j
  rw [List.getElem?_set]
  split
  · rename_i e; subst e
    rw [if_pos (by rw [low1_len]; exact h)]
    have := low1_get h
    rw [List.getD_eq_getElem?_getD, List.getElem?_eq_getElem (by rw [low1_len]; exact h)] at this
    rw [List.getElem?_eq_getElem (by rw [low1_len]; exact h)]
    simpa using this
  · rfl

theorem words_bound : ∀ (s cur : Str), (joinS (wordsA s cur) [32]).length ≤ s.length + cur.length ∧ (wordsA s cur).length ≤ s.length + cur.length
  | [], cur => by
    unfold wordsA
    split
    · simp [joinS, Lib.join_nil]
    · rename_i h
      have : 0 < cur.length := List.length_pos_iff.2 h
      simp [joinS, Lib.join_one]; omega
  | c :: r, cur => by
    unfold wordsA
    split
    · split
      · have := words_bound r []; simp at this ⊢; omega
      · rename_i h
        have h0 : 0 < cur.length := List.length_pos_iff.2 h
        obtain ⟨h1, h2⟩ := words_bound r []
        have h3 : (joinS (cur :: wordsA r []) [32]).length ≤ cur.length + 1 + (joinS (wordsA r []) [32]).length := by
          cases wordsA r [] with
          | nil => simp [joinS, Lib.join_one]; omega
          | cons x q =>
            have := Lib.join_cons x q [32]
            unfold joinS
            rw [Lib.join_cons, this]
            simp [Lib.joinTail]; omega
        simp at h1 h2 ⊢; omega
    · have := words_bound r (cur ++ [c]); simp at this ⊢; omega

theorem c34 (s : Str) (hs : s.length ≤ 1000000000000) : PCall Try.prog 34 [.d (.str s)] fun x => x = .d (.str (foldS s)) := by
  obtain ⟨hj, hw⟩ := words_bound s []
  rw [List.length_nil, Nat.add_zero] at hj hw
  have hj2 : (joinS (words s) [32]).length ≤ s.length := hj
  have hw2 : (words s).length ≤ s.length := hw
  refine PCall.intro Try.tabOk Try.f34 _ Try.func34 rfl (by decide) rfl fun z => ?_
  repeat' first
    | (with_reducible refine AW.seq ?_)
    | ((with_reducible refine AW.region Try.tabOk ?_); (conv => whnf))
    | ((with_reducible refine AW.block ?_))
    | ((with_reducible refine ACall.id ?_); (refine PCall.call (by first | exact c68 s hs | exact c70 (words s) [32] (by omega) (by omega)) rfl ?_); (intro x hx; first | subst hx | (obtain ⟨l_, rfl, hl_⟩ := hx.out)); (conv => whnf))
    | ((with_reducible apply And.intro); (focus (first | omega | (exact True.intro) | (simp; omega) | (exact Nat.le_of_ble_eq_true rfl) | (exact ⟨rfl, Nat.le_of_ble_eq_true rfl⟩) | (exact ⟨Nat.le_of_ble_eq_true rfl, Nat.le_of_ble_eq_true rfl⟩) | (intro hg; first | (simp; first | done | fail) | (simp at hg ⊢; exact hg) | (simp at hg; exact hg) | exact hg))); (conv => whnf))
    | (intro hlen; (conv => whnf))
  obtain ⟨J, hJ⟩ : ∃ J, J = joinS (words s) [32] := ⟨_, rfl⟩
  have hJl : J.length ≤ s.length := by rw [hJ]; exact hj2
  refine AW.loopS (X := Nat) [12, 4] [] (fun i => [(14, .d (.int .i64 (i : Int))), (13, .d (.int .i64 (J.length : Int)))]) (fun i => [(0, .row 5 1 ((low1 J i).map byteD) 1)]) (fun _ => 1)
    (fun i => i ≤ J.length) (fun i => J.length - i) 0 (Nat.zero_le _) (fun _ _ => rfl) ⟨rfl, rfl, rfl, ⟨OLe.of (by show AObj.row 5 1 ((joinS (words s) [32]).map byteD) 1 = _; rw [hJ]; simp [low1]), trivial⟩, ⟨AV.le_refl _, AV.le_of_eq (by show AV.d (.int .i64 (((joinS (words s) [32]).map byteD).length : Int)) = _; rw [hJ]; simp), AV.le_refl _, AV.le_refl _, trivial⟩⟩ ?_
  intro i hi
  have hl1 := low1_len J i
  have hu := (((low1 J i).getD i default)).toNat_lt
  have hu2 : ((low1 J i).getD (i : Int).toNat default).toNat < 256 := hu
  repeat' first
    | (with_reducible refine AW.seq ?_)
    | ((with_reducible refine AW.region Try.tabOk ?_); (conv => whnf))
    | ((with_reducible refine AW.ret ?_); (conv => whnf))
    | ((with_reducible refine AW.block ?_))
    | ((with_reducible refine AW.exit ?_); (conv => whnf))
    | ((with_reducible refine AW.skip ?_); (conv => whnf))
    | ((with_reducible refine AW.cond ?_); (conv => whnf))
    | (refine ⟨_, ⟨rfl, getM (by first | omega | (simp; omega))⟩, ?_⟩; (conv => whnf))
    | ((with_reducible apply Or.inl); apply Exists.intro; apply And.intro; (focus (intro hg; (conv => whnf); (repeat' first | (with_reducible exact ⟨rfl, rfl⟩) | ((with_reducible refine Own2.data ?_); (conv => whnf)) | (refine ⟨true, _, rfl, ?_⟩; (conv => whnf)) | (refine ⟨false, .nilp, rfl, ?_⟩; (conv => whnf)) | (refine ⟨_, _, by first | exact c69 _, ?_⟩; (conv => whnf)) | ((with_reducible apply Or.inl); (refine ⟨rfl, rfl, ?_⟩); (conv => whnf)) | ((with_reducible apply Or.inl); (with_reducible apply And.intro); (focus (simp only [rng]; omega)); (conv => whnf)) | (refine ⟨by first | omega | (simp at hg ⊢; omega) | (simp_all; first | done | fail), ?_⟩; (conv => whnf)) | ((with_reducible refine ACall.id ?_); (refine PCall.call (by first | exact c69 _) rfl ?_); (intro x hx; first | subst hx | (obtain ⟨l_, rfl, hl_⟩ := hx.out)); (conv => whnf)) | ((with_reducible apply Or.inr); (with_reducible apply And.intro) <;> (intro hb_; first | (cases hb_; done) | (conv => whnf))) | (intro hlen; (conv => whnf))); done)); (conv => whnf))
    | (apply Exists.intro; apply And.intro; (focus (first | (intro hg; (conv => whnf)) | (conv => whnf)); (repeat' first | (with_reducible exact ⟨rfl, rfl⟩) | ((with_reducible refine Own2.data ?_); (conv => whnf)) | (refine ⟨true, _, rfl, ?_⟩; (conv => whnf)) | (refine ⟨false, .nilp, rfl, ?_⟩; (conv => whnf)) | (refine ⟨_, _, by first | exact c69 _, ?_⟩; (conv => whnf)) | ((with_reducible apply Or.inl); (refine ⟨rfl, rfl, ?_⟩); (conv => whnf)) | ((with_reducible apply Or.inl); (with_reducible apply And.intro); (focus (simp only [rng]; omega)); (conv => whnf)) | (refine ⟨by first | omega | (simp at hg ⊢; omega) | (simp_all; first | done | fail), ?_⟩; (conv => whnf)) | ((with_reducible refine ACall.id ?_); (refine PCall.call (by first | exact c69 _) rfl ?_); (intro x hx; first | subst hx | (obtain ⟨l_, rfl, hl_⟩ := hx.out)); (conv => whnf)) | ((with_reducible apply Or.inr); (with_reducible apply And.intro) <;> (intro hb_; first | (cases hb_; done) | (conv => whnf))) | (intro hlen; (conv => whnf))); done); (conv => whnf))
    | ((with_reducible apply Or.inl); (with_reducible apply And.intro); (focus (simp only [rng]; omega)); (conv => whnf))
    | ((with_reducible apply And.intro); (focus (first | omega | (exact True.intro) | (simp; omega) | (exact Nat.le_of_ble_eq_true rfl) | (exact ⟨rfl, Nat.le_of_ble_eq_true rfl⟩) | (exact ⟨Nat.le_of_ble_eq_true rfl, Nat.le_of_ble_eq_true rfl⟩) | (intro hg; first | (simp; first | done | fail) | (simp at hg ⊢; exact hg) | (simp at hg; exact hg) | exact hg))); (conv => whnf))
    | ((with_reducible apply And.intro) <;> (intro hb; (try simp at hb); (try (exfalso; first | omega | (simp_all; first | done | fail))); (try (conv => whnf))))
    | ((with_reducible refine And.intro (Side.out ?_) ?_); rotate_left; (conv => whnf); rotate_right)
  · have hit : i < J.length := by assumption
    have hb : 65 ≤ ((((low1 J i)[i]?.getD default).toNat : Nat) : Int) ∧ ((((low1 J i)[i]?.getD default).toNat : Nat) : Int) ≤ 90 := by assumption
    rw [← List.getD_eq_getElem?_getD] at hb
    have hb2 : 65 ≤ ((((low1 J i).getD (i : Int).toNat default).toNat : Nat) : Int) ∧ ((((low1 J i).getD (i : Int).toNat default).toNat : Nat) : Int) ≤ 90 := hb
    refine .inl ⟨by simp only [rng]; omega, ?_⟩
    (conv => whnf)
    repeat' first
      | ((with_reducible refine AW.region Try.tabOk ?_); (conv => whnf))
      | ((with_reducible apply Or.inl); (with_reducible apply And.intro); (focus (simp only [rng]; omega)); (conv => whnf))
      | ((with_reducible apply And.intro); (focus (first | omega | (exact True.intro) | (simp; omega) | (exact Nat.le_of_ble_eq_true rfl) | (exact ⟨rfl, Nat.le_of_ble_eq_true rfl⟩) | (exact ⟨Nat.le_of_ble_eq_true rfl, Nat.le_of_ble_eq_true rfl⟩) | (intro hg; first | (simp; first | done | fail) | (simp at hg ⊢; exact hg) | (simp at hg; exact hg) | exact hg))); (conv => whnf))
    refine .mk (i + 1) hit (by show J.length - (i + 1) < J.length - i; omega) ⟨rfl, rfl, rfl, ⟨OLe.of ?_, trivial⟩, ⟨AV.le_refl _, AV.le_refl _, AV.le_refl _, AV.le_refl _, trivial⟩, rfl⟩
    rw [low1_get hit] at hb
    show AObj.row 5 1 (((low1 J i).map byteD).set (i : Int).toNat (.int .u8 (((((low1 J i).getD i default).toNat : Nat) : Int) + 97 - 65))) 1 = AObj.row 5 1 ((low1 J (i + 1)).map byteD) 1
    rw [low1_get hit, Int.toNat_natCast, ← low1_set hit, List.map_set]
    have : byteD (lowB (J.getD i 0)) = .int .u8 (((J.getD i 0).toNat : Int) + 97 - 65) := by
      unfold lowB byteD
      rw [if_pos (by omega)]
      congr 1
      rw [UInt8.toNat_add]
      have : (32 : UInt8).toNat = 32 := rfl
      rw [this, Nat.mod_eq_of_lt (by omega)]; omega
    rw [this]
  · have hit : i < J.length := by assumption
    have hb : 65 ≤ ((((low1 J i)[i]?.getD default).toNat : Nat) : Int) → 90 < ((((low1 J i)[i]?.getD default).toNat : Nat) : Int) := by assumption
    rw [← List.getD_eq_getElem?_getD, low1_get hit] at hb
    refine .mk (i + 1) hit (by show J.length - (i + 1) < J.length - i; omega) ⟨rfl, rfl, rfl, ⟨OLe.of ?_, trivial⟩, ⟨AV.le_refl _, AV.le_refl _, AV.le_refl _, AV.le_refl _, trivial⟩, rfl⟩
    show AObj.row 5 1 ((low1 J i).map byteD) 1 = _
    rw [low1_stay hit (by unfold lowB; rw [if_neg (by omega)])]
  · have he : i = J.length := by omega
    refine ⟨?_⟩
    rw [he, foldS, ← hJ]
    simp [low1]
  · refine ⟨?_⟩
    rw [foldS, ← hJ, List.length_map]
    simp only [maxLen]; omega
end Go.Proofs
end
section
/- Contracts: finding names. -/
namespace Go.Proofs
open Go.Pm
set_option maxRecDepth 100000
set_option maxHeartbeats 4000000

def upB (c : UInt8) : UInt8 := if 97 ≤ c.toNat ∧ c.toNat ≤ 122 then c - 32 else c
def up1 (c : UInt8) : Str := if upB c = 32 then [upB c, 32] else [upB c]
def raisedS (s : Str) : Str := 32 :: s.flatMap up1 ++ [10]
def up2 (s : Str) (i : Nat) : Str := 32 :: (s.take i).flatMap up1
theorem up2_step {s : Str} {i : Nat} (h : i < s.length) : up2 s (i + 1) = up2 s i ++ up1 (s.getD i 0) := by
  unfold up2
  rw [take_succ_getD s i 0 h, List.flatMap_append]; simp
theorem up2_len (s : Str) (i : Nat) : (up2 s i).length ≤ 1 + 2 * i := by
  unfold up2
  have : ∀ l : Str, (l.flatMap up1).length ≤ 2 * l.length := by
    intro l
    induction l with
    | nil => simp
    | cons c r ih =>
      rw [List.flatMap_cons, List.length_append, List.length_cons]
      have : (up1 c).length ≤ 2 := by unfold up1; split <;> simp
      omega
  have h := this (s.take i)
  rw [List.length_take] at h
  simp only [List.length_cons]; omega
theorem c35 (s : Str) (hs : s.length ≤ 1000000000000) : PCall Try.prog 35 [.d (.str s)] fun x => x = .d (.str (raisedS s)) := by
  refine PCall.intro Try.tabOk Try.f35 _ Try.func35 rfl (by decide) rfl fun z => ?_
  repeat' first
    | (with_reducible refine AW.seq ?_)
    | ((with_reducible refine AW.region Try.tabOk ?_); (conv => whnf))
    | ((with_reducible refine AW.block ?_))
    | ((with_reducible refine Own2.own ?_); (conv => whnf))
  refine AW.loopS (X := Nat × Nat) [0] [] (fun x => [(4, .d (.int .i64 (x.1 : Int))), (3, .own 0 (x.2 + 1) 1)]) (fun x => [(0, .row 5 1 ((up2 s x.1).map byteD) (x.2 + 1))]) (fun _ => 1)
    (fun x => x.1 ≤ s.length) (fun x => s.length - x.1) (0, 0) (Nat.zero_le _) (fun _ _ => rfl) (by refine ⟨rfl, rfl, rfl, ?_, ?_⟩ <;> repeat' (first | exact trivial | exact OLe.refl _ | exact AV.le_refl _ | apply And.intro)) ?_
  intro ⟨i, v⟩ hi
  dsimp only at hi
  have hl := up2_len s i
  have hu := (s.getD i 0).toNat_lt
  have hu2 : (s.getD (i : Int).toNat 0).toNat < 256 := hu
  repeat' first
    | (with_reducible refine AW.seq ?_)
    | ((with_reducible refine AW.region Try.tabOk ?_); (conv => whnf))
    | ((with_reducible refine AW.ret ?_); (conv => whnf))
    | ((with_reducible refine AW.block ?_))
    | ((with_reducible refine AW.exit ?_); (conv => whnf))
    | ((with_reducible refine AW.skip ?_); (conv => whnf))
    | ((with_reducible refine AW.cond ?_); (conv => whnf))
    | ((with_reducible refine Own2.own ?_); (conv => whnf))
    | ((with_reducible apply Or.inl); apply Exists.intro; apply And.intro; (focus (intro hg; (conv => whnf); (repeat' first | (with_reducible exact ⟨rfl, rfl⟩) | ((with_reducible refine Own2.own ?_); (conv => whnf)) | (refine ⟨true, _, rfl, ?_⟩; (conv => whnf)) | (refine ⟨false, .nilp, rfl, ?_⟩; (conv => whnf)) | (refine ⟨_, _, by first | fail, ?_⟩; (conv => whnf)) | ((with_reducible apply Or.inl); (refine ⟨rfl, rfl, ?_⟩); (conv => whnf)) | ((with_reducible apply Or.inl); (with_reducible apply And.intro); (focus (simp only [rng]; omega)); (conv => whnf)) | (refine ⟨by first | omega | (simp at hg ⊢; omega) | (simp_all; first | done | fail), ?_⟩; (conv => whnf)) | ((with_reducible refine ACall.id ?_); (refine PCall.call (by first | fail) rfl ?_); (intro x hx; first | subst hx | (obtain ⟨l_, rfl, hl_⟩ := hx.out)); (conv => whnf)) | ((with_reducible apply Or.inr); (with_reducible apply And.intro) <;> (intro hb_; first | (cases hb_; done) | (conv => whnf))) | (intro hlen; (conv => whnf))); done)); (conv => whnf))
    | (apply Exists.intro; apply And.intro; (focus (first | (intro hg; (conv => whnf)) | (conv => whnf)); (repeat' first | (with_reducible exact ⟨rfl, rfl⟩) | ((with_reducible refine Own2.own ?_); (conv => whnf)) | (refine ⟨true, _, rfl, ?_⟩; (conv => whnf)) | (refine ⟨false, .nilp, rfl, ?_⟩; (conv => whnf)) | (refine ⟨_, _, by first | fail, ?_⟩; (conv => whnf)) | ((with_reducible apply Or.inl); (refine ⟨rfl, rfl, ?_⟩); (conv => whnf)) | ((with_reducible apply Or.inl); (with_reducible apply And.intro); (focus (simp only [rng]; omega)); (conv => whnf)) | (refine ⟨by first | omega | (simp at hg ⊢; omega) | (simp_all; first | done | fail), ?_⟩; (conv => whnf)) | ((with_reducible refine ACall.id ?_); (refine PCall.call (by first | fail) rfl ?_); (intro x hx; first | subst hx | (obtain ⟨l_, rfl, hl_⟩ := hx.out)); (conv => whnf)) | ((with_reducible apply Or.inr); (with_reducible apply And.intro) <;> (intro hb_; first | (cases hb_; done) | (conv => whnf))) | (intro hlen; (conv => whnf))); done); (conv => whnf))
    | ((with_reducible apply Or.inl); (with_reducible apply And.intro); (focus (simp only [rng]; omega)); (conv => whnf))
    | ((with_reducible apply And.intro); (focus (first | omega | (exact True.intro) | (simp; omega) | (exact Nat.le_of_ble_eq_true rfl) | (exact ⟨rfl, Nat.le_of_ble_eq_true rfl⟩) | (exact ⟨Nat.le_of_ble_eq_true rfl, Nat.le_of_ble_eq_true rfl⟩) | (intro hg; first | (simp; first | done | fail) | (simp at hg ⊢; exact hg) | (simp at hg; exact hg) | exact hg))); (conv => whnf))
    | ((with_reducible apply And.intro) <;> (intro hb; (try simp at hb); (try (exfalso; first | omega | (simp_all; first | done | fail))); (try (conv => whnf))))
    | (intro hlen; (conv => whnf))
    | ((with_reducible refine And.intro (Side.out ?_) ?_); rotate_left; (conv => whnf); rotate_right)
  · have hit : i < s.length := by assumption
    have hb : 97 ≤ ((s[i]?.getD 0).toNat : Int) ∧ ((s[i]?.getD 0).toNat : Int) ≤ 122 := by assumption
    rw [← List.getD_eq_getElem?_getD] at hb
    have hb3 : 97 ≤ ((s.getD (i : Int).toNat 0).toNat : Int) ∧ ((s.getD (i : Int).toNat 0).toNat : Int) ≤ 122 := hb
    have hub : ((upB (s.getD i 0)).toNat : Int) = ((s.getD i 0).toNat : Int) - 32 := by
      unfold upB
      rw [if_pos (by omega), UInt8.toNat_sub_of_le _ _ (by show 32 ≤ (s.getD i 0).toNat; omega)]
      show (((s.getD i 0).toNat - 32 : Nat) : Int) = _
      omega
    have hup : up1 (s.getD i 0) = [upB (s.getD i 0)] := by
      unfold up1
      rw [if_neg (fun h => by rw [h] at hub; have : ((32 : UInt8).toNat : Int) = 32 := rfl; omega)]
    refine .inl ⟨by simp only [rng]; omega, ?_⟩
    (conv => whnf)
    repeat' first
      | (with_reducible refine AW.seq ?_)
      | ((with_reducible refine AW.region Try.tabOk ?_); (conv => whnf))
      | ((with_reducible refine AW.skip ?_); (conv => whnf))
      | ((with_reducible refine AW.cond ?_); (conv => whnf))
      | ((with_reducible refine Own2.own ?_); (conv => whnf))
      | ((with_reducible apply Or.inl); (with_reducible apply And.intro); (focus (simp only [rng]; omega)); (conv => whnf))
      | ((with_reducible apply And.intro); (focus (first | omega | (exact True.intro) | (simp; omega) | (exact Nat.le_of_ble_eq_true rfl) | (exact ⟨rfl, Nat.le_of_ble_eq_true rfl⟩) | (exact ⟨Nat.le_of_ble_eq_true rfl, Nat.le_of_ble_eq_true rfl⟩) | (intro hg; first | (simp; first | done | fail) | (simp at hg ⊢; exact hg) | (simp at hg; exact hg) | exact hg))); (conv => whnf))
      | (intro hlen; (conv => whnf))
      | ((with_reducible refine And.intro (Side.out ?_) ?_); rotate_left; (conv => whnf); rotate_right)
    · exact ⟨rfl, by simp; omega, by simp [maxLen]; omega⟩
    · have hb2 : (((upB (s.getD i 0)).toNat : Nat) : Int) = ((s.getD i 0).toNat : Int) - 32 := hub
      refine .mk (i + 1, v + 1) hit (by show s.length - (i + 1) < s.length - i; omega) ⟨rfl, rfl, rfl, ⟨OLe.of (by
      show AObj.row 5 1 ((up2 s i).map byteD ++ [.int .u8 (((s.getD i 0).toNat : Int) - 32)]) (v + 2) = AObj.row 5 1 ((up2 s (i + 1)).map byteD) (v + 2)
      rw [up2_step hit, hup]; first | (rw [hb2]; simp [byteD]; done) | (rw [← hb2]; simp [byteD]; done) | (simp [byteD]; done)), trivial⟩, ⟨AV.le_refl _, AV.le_refl _, AV.le_refl _, trivial⟩, rfl⟩
  · exact ⟨rfl, by simp; omega, by simp [maxLen]; omega⟩
  · exact ⟨rfl, by simp; omega, by simp [maxLen]; omega⟩
  · have hit : i < s.length := by assumption
    have hb : 97 ≤ ((s[i]?.getD 0).toNat : Int) → 122 < ((s[i]?.getD 0).toNat : Int) := by assumption
    have h32 : ((s[i]?.getD 0).toNat : Int) = 32 := by assumption
    rw [← List.getD_eq_getElem?_getD] at hb h32
    have hub : upB (s.getD i 0) = s.getD i 0 := by unfold upB; rw [if_neg (by omega)]
    have hc : s.getD i 0 = 32 := by apply UInt8.toNat_inj.1; show (s.getD i 0).toNat = 32; omega
    have hup : up1 (s.getD i 0) = [32, 32] := by unfold up1; rw [hub, hc]; rfl
    have hb2 : ((s.getD i 0).toNat : Int) = 32 := h32
    refine .mk (i + 1, v + 2) hit (by show s.length - (i + 1) < s.length - i; omega) ⟨rfl, rfl, rfl, ⟨OLe.of (by
      show AObj.row 5 1 ((up2 s i).map byteD ++ [.int .u8 ((s.getD i 0).toNat : Int)] ++ [.int .u8 32]) (v + 3) = AObj.row 5 1 ((up2 s (i + 1)).map byteD) (v + 3)
      rw [up2_step hit, hup]; first | (rw [hb2]; simp [byteD]; done) | (rw [← hb2]; simp [byteD]; done) | (simp [byteD]; done)), trivial⟩, ⟨AV.le_refl _, AV.le_refl _, AV.le_refl _, trivial⟩, rfl⟩
  · have hit : i < s.length := by assumption
    have hb : 97 ≤ ((s[i]?.getD 0).toNat : Int) → 122 < ((s[i]?.getD 0).toNat : Int) := by assumption
    have h32 : ¬ ((s[i]?.getD 0).toNat : Int) = 32 := by assumption
    rw [← List.getD_eq_getElem?_getD] at hb h32
    have hub : upB (s.getD i 0) = s.getD i 0 := by unfold upB; rw [if_neg (by omega)]
    have hup : up1 (s.getD i 0) = [s.getD i 0] := by
      unfold up1; rw [hub, if_neg (fun h => h32 (by rw [h]; rfl))]
    have hb2 : True := trivial
    refine .mk (i + 1, v + 1) hit (by show s.length - (i + 1) < s.length - i; omega) ⟨rfl, rfl, rfl, ⟨OLe.of (by
      show AObj.row 5 1 ((up2 s i).map byteD ++ [.int .u8 ((s.getD i 0).toNat : Int)]) (v + 2) = AObj.row 5 1 ((up2 s (i + 1)).map byteD) (v + 2)
      rw [up2_step hit, hup]; first | (rw [hb2]; simp [byteD]; done) | (rw [← hb2]; simp [byteD]; done) | (simp [byteD]; done)), trivial⟩, ⟨AV.le_refl _, AV.le_refl _, AV.le_refl _, trivial⟩, rfl⟩
  · exact ⟨rfl, by simp; omega, by simp [maxLen]; omega⟩
  · have he : i = s.length := by omega
    refine ⟨?_⟩
    show (up2 s i).map byteD ++ [.int .u8 10] = _
    rw [he]
    simp [up2, raisedS, byteD]
  · refine ⟨?_⟩
    have := up2_len s s.length
    have e : raisedS s = up2 s s.length ++ [10] := by simp [raisedS, up2]
    rw [e]; simp [maxLen]; omega
end Go.Proofs
end
section
/- Contracts: what lacks a name. -/
namespace Go.Proofs
open Go.Pm
set_option maxRecDepth 100000
set_option maxHeartbeats 4000000

theorem idx_has (L : List Str) (v : Str) : decide (0 ≤ idx L v) = L.contains v := by
  unfold idx
  cases h : L.findIdx? (fun s => v == s) with
  | some i =>
    obtain ⟨hi, h1, h2⟩ := List.findIdx?_eq_some_iff_getElem.1 h
    have : v ∈ L := by rw [eq_of_beq h1]; exact List.getElem_mem hi
    simp [this]
  | none =>
    rw [List.findIdx?_eq_none_iff] at h
    have : ¬ v ∈ L := fun hv => by have := h v hv; simp at this
    simp [this]
theorem c57' (L : List Str) (v : Str) : PCall Try.prog 57 [.d (encStrs L), .d (.str v)] fun x => x = .d (.bool (L.contains v)) := by
  have := c57 L v
  rwa [idx_has] at this
def lacksB (G own : List Str) : Bool := G.any fun g => !own.contains g
theorem lacksB_of {G own : List Str} {j : Nat} (hj : j < G.length) (h : ¬ G.getD j [] ∈ own) : lacksB G own = true := by
  unfold lacksB
  rw [List.any_eq_true]
  exact ⟨G.getD j [], by rw [List.getD_eq_getElem?_getD, List.getElem?_eq_getElem hj]; simp, by simpa using h⟩
def missB (G : List Str) (o : Obj) : Bool := decide (0 < (langsV o.tags).length) && lacksB G (langsV o.tags)
def missS (G : List Str) (m : List Obj) : List Str := (m.filter (missB G)).map (·.id)
def missV (G : List Str) (m : List Obj) : List Str := if mapB m then missS G m else []
theorem missS_step {G : List Str} {m : List Obj} {i : Nat} (h : i < m.length) : missS G (m.take (i + 1)) = missS G (m.take i) ++ (if missB G (m.getD i default) then [(m.getD i default).id] else []) := by
  unfold missS
  rw [take_succ_getD m i default h, List.filter_append, List.map_append]
  congr 1
  rw [List.filter_cons, List.filter_nil]
  cases hb : missB G (m.getD i default) <;> rfl
theorem missS_len (G : List Str) (m : List Obj) : (missS G m).length ≤ m.length := by
  unfold missS; rw [List.length_map]; exact List.length_filter_le _ _
theorem c67 (m : List Obj) (G : List Str) : PCall Try.prog 67 [.d (encMap m), .d (encStrs G)] fun x => x = .d (encStrs (missV G m)) := by
  refine PCall.strs ?_
  refine PCall.intro Try.tabOk Try.f67 _ Try.func67 rfl (by decide) rfl fun z => ?_
  repeat' first
    | (with_reducible refine AW.seq ?_)
    | ((with_reducible refine AW.region Try.tabOk ?_); (conv => whnf))
    | ((with_reducible refine AW.ret ?_); (conv => whnf))
    | ((with_reducible refine AW.block ?_))
    | ((with_reducible refine AW.skip ?_); (conv => whnf))
    | ((with_reducible refine AW.cond ?_); (conv => whnf))
    | ((with_reducible refine ACall.id ?_); (refine PCall.call (by first | exact c26 _ | exact c38 _) rfl ?_); (intro x hx; first | subst hx | (obtain ⟨l_, rfl, hl_⟩ := hx.out)); (conv => whnf))
    | ((with_reducible apply And.intro) <;> (intro hb; (try simp at hb); (try (exfalso; first | omega | (simp_all; first | done | fail))); (try (conv => whnf))))
    | (intro hlen; (conv => whnf))
  · exact .nil (by simp [missV, *])
  have hmb : mapB m = true := by assumption
  have hm : m.length ≤ 1000000 := by simp only [mapB, Bool.and_eq_true, decide_eq_true_eq] at hmb; exact hmb.2
  refine AW.loopS (X := Nat × Nat) [15, 14, 1] [0] (fun x => [(16, .d (.int .i64 (x.1 : Int))), (5, match x.2 with | 0 => .d .nils | v + 1 => .own 4 (v + 1) 1)]) (fun x => match x.2 with
      | 0 => []
      | v + 1 => [(4, .row 9 1 ((missS G (m.take x.1)).map .str) (v + 1))]) (fun x => match x.2 with | 0 => 1 | _ + 1 => 5)
    (fun x => x.1 ≤ m.length ∧ (x.2 = 0 ↔ missS G (m.take x.1) = [])) (fun x => m.length - x.1) (0, 0) ⟨Nat.zero_le _, by simp [missS]⟩ (fun x _ => by rcases x with ⟨_, _ | _⟩ <;> rfl) (by refine ⟨rfl, rfl, rfl, ?_, ?_⟩ <;> repeat' (first | exact trivial | exact OLe.refl _ | exact AV.le_refl _ | apply And.intro)) ?_
  intro ⟨i, v⟩ ⟨hi, hv⟩
  dsimp only at hi hv
  have hll := missS_len G (m.take i)
  rw [List.length_take] at hll
  cases v with
  | zero =>
    have hnil : missS G (m.take i) = [] := hv.1 rfl
    repeat' first
      | (with_reducible refine AW.seq ?_)
      | ((with_reducible refine AW.region Try.tabOk ?_); (conv => whnf))
      | ((with_reducible refine AW.ret ?_); (conv => whnf))
      | ((with_reducible refine AW.block ?_))
      | ((with_reducible refine AW.exit ?_); (conv => whnf))
      | ((with_reducible refine AW.skip ?_); (conv => whnf))
      | ((with_reducible refine AW.cond ?_); (conv => whnf))
      | ((with_reducible refine ACall.id ?_); (refine PCall.call (by first | exact c26 _ | exact c38 _ | exact c57' _ _) rfl ?_); (intro x hx; first | subst hx | (obtain ⟨l_, rfl, hl_⟩ := hx.out)); (conv => whnf))
      | ((with_reducible refine ACall.id ?_); (refine ACall.intro Try.tabOk Try.f81 _ Try.func81 rfl (by decide) rfl ?_); intro z_)
      | ((with_reducible refine ACall.id ?_); (refine ACall.intro Try.tabOk Try.f105 _ Try.func105 rfl (by decide) rfl ?_); intro z_)
      | ((with_reducible apply And.intro); (focus (first | omega | (exact True.intro) | (simp; omega) | (exact Nat.le_of_ble_eq_true rfl) | (exact ⟨rfl, Nat.le_of_ble_eq_true rfl⟩) | (exact ⟨Nat.le_of_ble_eq_true rfl, Nat.le_of_ble_eq_true rfl⟩) | (intro hg; first | (simp; first | done | fail) | (simp at hg ⊢; exact hg) | (simp at hg; exact hg) | exact hg))); (conv => whnf))
      | ((with_reducible apply And.intro) <;> (intro hb; (try simp at hb); (try (exfalso; first | omega | (simp_all; first | done | fail))); (try (conv => whnf))))
      | (intro hlen; (conv => whnf))
    · refine AW.loopS (X := Nat) [7, 6, 0, 1] [0, 1, 2] (fun j => [(8, .d (.int .i64 (j : Int)))]) (fun _ => []) (fun _ => 3)
        (fun j => j ≤ G.length ∧ ∀ k, k < j → (langsV (m.getD i default).tags).contains (G.getD k []) = true) (fun j => G.length - j) 0 ⟨Nat.zero_le _, fun k h => absurd h (Nat.not_lt_zero k)⟩ (fun _ _ => rfl) (by refine ⟨rfl, rfl, rfl, ?_, ?_⟩ <;> repeat' (first | exact trivial | exact OLe.refl _ | exact AV.le_refl _ | apply And.intro)) ?_
      intro j ⟨hj, hw⟩
      repeat' first
        | (with_reducible refine AW.seq ?_)
        | ((with_reducible refine AW.region Try.tabOk ?_); (conv => whnf))
        | ((with_reducible refine AW.ret ?_); (conv => whnf))
        | ((with_reducible refine AW.block ?_))
        | ((with_reducible refine AW.exit ?_); (conv => whnf))
        | ((with_reducible refine AW.skip ?_); (conv => whnf))
        | ((with_reducible refine AW.cond ?_); (conv => whnf))
        | ((with_reducible refine Own2.data ?_); (conv => whnf))
        | ((with_reducible refine ACall.id ?_); (refine PCall.call (by first | exact c26 _ | exact c38 _ | exact c57' _ _) rfl ?_); (intro x hx; first | subst hx | (obtain ⟨l_, rfl, hl_⟩ := hx.out)); (conv => whnf))
        | ((with_reducible refine ACall.id ?_); (refine ACall.intro Try.tabOk Try.f97 _ Try.func97 rfl (by decide) rfl ?_); intro z_)
        | ((with_reducible apply Or.inl); apply Exists.intro; apply And.intro; (focus (intro hg; (conv => whnf); (repeat' first | (with_reducible exact ⟨rfl, rfl⟩) | ((with_reducible refine Own2.data ?_); (conv => whnf)) | (refine ⟨true, _, rfl, ?_⟩; (conv => whnf)) | (refine ⟨false, .nilp, rfl, ?_⟩; (conv => whnf)) | (refine ⟨_, _, by first | exact c26 _ | exact c38 _ | exact c57' _ _, ?_⟩; (conv => whnf)) | ((with_reducible apply Or.inl); (refine ⟨rfl, rfl, ?_⟩); (conv => whnf)) | ((with_reducible apply Or.inl); (with_reducible apply And.intro); (focus (simp only [rng]; omega)); (conv => whnf)) | (refine ⟨by first | omega | (simp at hg ⊢; omega) | (simp_all; first | done | fail), ?_⟩; (conv => whnf)) | ((with_reducible refine ACall.id ?_); (refine PCall.call (by first | exact c26 _ | exact c38 _ | exact c57' _ _) rfl ?_); (intro x hx; first | subst hx | (obtain ⟨l_, rfl, hl_⟩ := hx.out)); (conv => whnf)) | ((with_reducible apply Or.inr); (with_reducible apply And.intro) <;> (intro hb_; first | (cases hb_; done) | (conv => whnf))) | (intro hlen; (conv => whnf))); done)); (conv => whnf))
        | ((with_reducible apply Or.inl); (with_reducible apply And.intro); (focus (simp only [rng]; omega)); (conv => whnf))
        | ((with_reducible apply And.intro); (focus (first | omega | (exact True.intro) | (simp; omega) | (exact Nat.le_of_ble_eq_true rfl) | (exact ⟨rfl, Nat.le_of_ble_eq_true rfl⟩) | (exact ⟨Nat.le_of_ble_eq_true rfl, Nat.le_of_ble_eq_true rfl⟩) | (intro hg; first | (simp; first | done | fail) | (simp at hg ⊢; exact hg) | (simp at hg; exact hg) | exact hg))); (conv => whnf))
        | ((with_reducible apply And.intro) <;> (intro hb; (try simp at hb); (try (exfalso; first | omega | (simp_all; first | done | fail))); (try (conv => whnf))))
        | (intro hlen; (conv => whnf))
      all_goals try (have hit : i < m.length := by assumption)
      all_goals try (have hst := missS_step (G := G) hit)
      all_goals try (have hlit : j < G.length := by assumption)
      all_goals try (have hgj : ¬G[j]?.getD [] ∈ langsV (m[i]?.getD default).tags := by assumption)
      all_goals try (rw [← List.getD_eq_getElem?_getD, ← List.getD_eq_getElem?_getD] at hgj)
      all_goals try (have hlk := lacksB_of hlit hgj)
      · have hl0 : 0 < (langsV (m[i]?.getD default).tags).length := by assumption
        rw [← List.getD_eq_getElem?_getD] at hl0
        have hmi : missB G (m.getD i default) = true := by unfold missB; rw [hlk]; simpa using hl0
        rw [hmi, if_pos rfl] at hst
        exact .mk (i + 1, 1) ⟨hit, by dsimp only; rw [hst]; simp⟩ (by show m.length - (i + 1) < m.length - i; omega) ⟨rfl, rfl, rfl, ⟨OLe.of (by show AObj.row 9 1 [D.str (m.getD i default).id] 1 = AObj.row 9 1 ((missS G (m.take (i + 1))).map D.str) 1; rw [hst, hnil]; rfl), OLe.refl _, trivial⟩, ⟨AV.le_refl _, AV.le_refl _, AV.le_refl _, AV.le_refl _, AV.le_refl _, trivial⟩, rfl⟩
      · have hl0 : langsV (m[i]?.getD default).tags = [] := by assumption
        rw [← List.getD_eq_getElem?_getD] at hl0
        have hmi : missB G (m.getD i default) = false := by unfold missB; rw [hl0]; rfl
        rw [hmi, if_neg (by simp), List.append_nil] at hst
        exact .mk (i + 1, 0) ⟨hit, by dsimp only; rw [hst, hnil]; simp⟩ (by show m.length - (i + 1) < m.length - i; omega) (by refine ⟨rfl, rfl, rfl, ?_, ?_, rfl⟩ <;> repeat' (first | exact trivial | exact OLe.refl _ | exact AV.le_refl _ | apply And.intro))
      · have hgj : G[j]?.getD [] ∈ langsV (m[i]?.getD default).tags := by assumption
        rw [← List.getD_eq_getElem?_getD, ← List.getD_eq_getElem?_getD] at hgj
        exact .mk (j + 1) ⟨hlit, fun k hk => by
          by_cases e : k = j
          · subst e; simpa using hgj
          · exact hw k (by omega)⟩ (by show G.length - (j + 1) < G.length - j; omega) (by refine ⟨rfl, rfl, rfl, ?_, ?_, rfl⟩ <;> repeat' (first | exact trivial | exact OLe.refl _ | exact AV.le_refl _ | apply And.intro))
      · have hlk : lacksB G (langsV (m.getD i default).tags) = false := by
          unfold lacksB
          rw [List.any_eq_false]
          intro g hg
          obtain ⟨k, hk, rfl⟩ := List.mem_iff_getElem.1 hg
          have := hw k (by omega)
          have e : G.getD k [] = G[k] := by rw [List.getD_eq_getElem?_getD, List.getElem?_eq_getElem hk]; rfl
          rw [e] at this
          rw [this]; simp
        have hmi : missB G (m.getD i default) = false := by unfold missB; rw [hlk]; simp
        rw [hmi, if_neg (by simp), List.append_nil] at hst
        exact .mk (i + 1, 0) ⟨hit, by dsimp only; rw [hst, hnil]; simp⟩ (by show m.length - (i + 1) < m.length - i; omega) (by refine ⟨rfl, rfl, rfl, ?_, ?_, rfl⟩ <;> repeat' (first | exact trivial | exact OLe.refl _ | exact AV.le_refl _ | apply And.intro))
    · have he : i = m.length := by omega
      have hnil2 : missS G m = [] := by have := hv.1 rfl; rw [he, List.take_length] at this; exact this
      exact .nil (by simp [missV, hmb, hnil2])
  | succ v =>
    have hne : missS G (m.take i) ≠ [] := fun h => by have := hv.2 h; omega
    repeat' first
      | (with_reducible refine AW.seq ?_)
      | ((with_reducible refine AW.region Try.tabOk ?_); (conv => whnf))
      | ((with_reducible refine AW.ret ?_); (conv => whnf))
      | ((with_reducible refine AW.block ?_))
      | ((with_reducible refine AW.exit ?_); (conv => whnf))
      | ((with_reducible refine AW.skip ?_); (conv => whnf))
      | ((with_reducible refine AW.cond ?_); (conv => whnf))
      | ((with_reducible refine ACall.id ?_); (refine PCall.call (by first | exact c26 _ | exact c38 _ | exact c57' _ _) rfl ?_); (intro x hx; first | subst hx | (obtain ⟨l_, rfl, hl_⟩ := hx.out)); (conv => whnf))
      | ((with_reducible refine ACall.id ?_); (refine ACall.intro Try.tabOk Try.f81 _ Try.func81 rfl (by decide) rfl ?_); intro z_)
      | ((with_reducible refine ACall.id ?_); (refine ACall.intro Try.tabOk Try.f105 _ Try.func105 rfl (by decide) rfl ?_); intro z_)
      | ((with_reducible apply And.intro); (focus (first | omega | (exact True.intro) | (simp; omega) | (exact Nat.le_of_ble_eq_true rfl) | (exact ⟨rfl, Nat.le_of_ble_eq_true rfl⟩) | (exact ⟨Nat.le_of_ble_eq_true rfl, Nat.le_of_ble_eq_true rfl⟩) | (intro hg; first | (simp; first | done | fail) | (simp at hg ⊢; exact hg) | (simp at hg; exact hg) | exact hg))); (conv => whnf))
      | ((with_reducible apply And.intro) <;> (intro hb; (try simp at hb); (try (exfalso; first | omega | (simp_all; first | done | fail))); (try (conv => whnf))))
      | (intro hlen; (conv => whnf))
    · refine AW.loopS (X := Nat) [7, 6, 0, 1] [0, 4, 5, 6] (fun j => [(8, .d (.int .i64 (j : Int)))]) (fun _ => []) (fun _ => 7)
        (fun j => j ≤ G.length ∧ ∀ k, k < j → (langsV (m.getD i default).tags).contains (G.getD k []) = true) (fun j => G.length - j) 0 ⟨Nat.zero_le _, fun k h => absurd h (Nat.not_lt_zero k)⟩ (fun _ _ => rfl) (by refine ⟨rfl, rfl, rfl, ?_, ?_⟩ <;> repeat' (first | exact trivial | exact OLe.refl _ | exact AV.le_refl _ | apply And.intro)) ?_
      intro j ⟨hj, hw⟩
      repeat' first
        | (with_reducible refine AW.seq ?_)
        | ((with_reducible refine AW.region Try.tabOk ?_); (conv => whnf))
        | ((with_reducible refine AW.ret ?_); (conv => whnf))
        | ((with_reducible refine AW.block ?_))
        | ((with_reducible refine AW.exit ?_); (conv => whnf))
        | ((with_reducible refine AW.skip ?_); (conv => whnf))
        | ((with_reducible refine AW.cond ?_); (conv => whnf))
        | ((with_reducible refine Own2.data ?_); (conv => whnf))
        | ((with_reducible refine ACall.id ?_); (refine PCall.call (by first | exact c26 _ | exact c38 _ | exact c57' _ _) rfl ?_); (intro x hx; first | subst hx | (obtain ⟨l_, rfl, hl_⟩ := hx.out)); (conv => whnf))
        | ((with_reducible refine ACall.id ?_); (refine ACall.intro Try.tabOk Try.f97 _ Try.func97 rfl (by decide) rfl ?_); intro z_)
        | ((with_reducible apply Or.inl); apply Exists.intro; apply And.intro; (focus (intro hg; (conv => whnf); (repeat' first | (with_reducible exact ⟨rfl, rfl⟩) | ((with_reducible refine Own2.data ?_); (conv => whnf)) | (refine ⟨true, _, rfl, ?_⟩; (conv => whnf)) | (refine ⟨false, .nilp, rfl, ?_⟩; (conv => whnf)) | (refine ⟨_, _, by first | exact c26 _ | exact c38 _ | exact c57' _ _, ?_⟩; (conv => whnf)) | ((with_reducible apply Or.inl); (refine ⟨rfl, rfl, ?_⟩); (conv => whnf)) | ((with_reducible apply Or.inl); (with_reducible apply And.intro); (focus (simp only [rng]; omega)); (conv => whnf)) | (refine ⟨by first | omega | (simp at hg ⊢; omega) | (simp_all; first | done | fail), ?_⟩; (conv => whnf)) | ((with_reducible refine ACall.id ?_); (refine PCall.call (by first | exact c26 _ | exact c38 _ | exact c57' _ _) rfl ?_); (intro x hx; first | subst hx | (obtain ⟨l_, rfl, hl_⟩ := hx.out)); (conv => whnf)) | ((with_reducible apply Or.inr); (with_reducible apply And.intro) <;> (intro hb_; first | (cases hb_; done) | (conv => whnf))) | (intro hlen; (conv => whnf))); done)); (conv => whnf))
        | ((with_reducible apply Or.inl); (with_reducible apply And.intro); (focus (simp only [rng]; omega)); (conv => whnf))
        | ((with_reducible apply And.intro); (focus (first | omega | (exact True.intro) | (simp; omega) | (exact Nat.le_of_ble_eq_true rfl) | (exact ⟨rfl, Nat.le_of_ble_eq_true rfl⟩) | (exact ⟨Nat.le_of_ble_eq_true rfl, Nat.le_of_ble_eq_true rfl⟩) | (intro hg; first | (simp; first | done | fail) | (simp at hg ⊢; exact hg) | (simp at hg; exact hg) | exact hg))); (conv => whnf))
        | ((with_reducible apply And.intro) <;> (intro hb; (try simp at hb); (try (exfalso; first | omega | (simp_all; first | done | fail))); (try (conv => whnf))))
        | (intro hlen; (conv => whnf))
        | ((with_reducible refine And.intro (Side.out ?_) ?_); rotate_left; (conv => whnf); rotate_right)
      all_goals try (have hit : i < m.length := by assumption)
      all_goals try (have hst := missS_step (G := G) hit)
      all_goals try (have hlit : j < G.length := by assumption)
      all_goals try (have hgj : ¬G[j]?.getD [] ∈ langsV (m[i]?.getD default).tags := by assumption)
      all_goals try (rw [← List.getD_eq_getElem?_getD, ← List.getD_eq_getElem?_getD] at hgj)
      all_goals try (have hlk := lacksB_of hlit hgj)
      · exact ⟨rfl, by simp; omega, by simp [maxLen]; omega⟩
      · have hl0 : 0 < (langsV (m[i]?.getD default).tags).length := by assumption
        rw [← List.getD_eq_getElem?_getD] at hl0
        have hmi : missB G (m.getD i default) = true := by unfold missB; rw [hlk]; simpa using hl0
        rw [hmi, if_pos rfl] at hst
        exact .mk (i + 1, v + 2) ⟨hit, by dsimp only; rw [hst]; simp⟩ (by show m.length - (i + 1) < m.length - i; omega) ⟨rfl, rfl, rfl, ⟨OLe.of (by show AObj.row 9 1 ((missS G (m.take i)).map D.str ++ [D.str (m.getD i default).id]) (v + 2) = AObj.row 9 1 ((missS G (m.take (i + 1))).map D.str) (v + 2); rw [hst]; simp), OLe.refl _, trivial⟩, ⟨AV.le_refl _, AV.le_refl _, AV.le_refl _, AV.le_refl _, AV.le_refl _, trivial⟩, rfl⟩
      · have hl0 : langsV (m[i]?.getD default).tags = [] := by assumption
        rw [← List.getD_eq_getElem?_getD] at hl0
        have hmi : missB G (m.getD i default) = false := by unfold missB; rw [hl0]; rfl
        rw [hmi, if_neg (by simp), List.append_nil] at hst
        exact .mk (i + 1, v + 1) ⟨hit, by dsimp only; rw [hst]; simp [hne]⟩ (by show m.length - (i + 1) < m.length - i; omega) ⟨rfl, rfl, rfl, ⟨OLe.of (by show AObj.row 9 1 ((missS G (m.take i)).map D.str) (v + 1) = AObj.row 9 1 ((missS G (m.take (i + 1))).map D.str) (v + 1); rw [hst]), OLe.refl _, trivial⟩, ⟨AV.le_refl _, AV.le_refl _, AV.le_refl _, AV.le_refl _, AV.le_refl _, trivial⟩, rfl⟩
      · have hgj : G[j]?.getD [] ∈ langsV (m[i]?.getD default).tags := by assumption
        rw [← List.getD_eq_getElem?_getD, ← List.getD_eq_getElem?_getD] at hgj
        exact .mk (j + 1) ⟨hlit, fun k hk => by
          by_cases e : k = j
          · subst e; simpa using hgj
          · exact hw k (by omega)⟩ (by show G.length - (j + 1) < G.length - j; omega) (by refine ⟨rfl, rfl, rfl, ?_, ?_, rfl⟩ <;> repeat' (first | exact trivial | exact OLe.refl _ | exact AV.le_refl _ | apply And.intro))
      · have hlk : lacksB G (langsV (m.getD i default).tags) = false := by
          unfold lacksB
          rw [List.any_eq_false]
          intro g hg
          obtain ⟨k, hk, rfl⟩ := List.mem_iff_getElem.1 hg
          have := hw k (by omega)
          have e : G.getD k [] = G[k] := by rw [List.getD_eq_getElem?_getD, List.getElem?_eq_getElem hk]; rfl
          rw [e] at this
          rw [this]; simp
        have hmi : missB G (m.getD i default) = false := by unfold missB; rw [hlk]; simp
        rw [hmi, if_neg (by simp), List.append_nil] at hst
        exact .mk (i + 1, v + 1) ⟨hit, by dsimp only; rw [hst]; simp [hne]⟩ (by show m.length - (i + 1) < m.length - i; omega) ⟨rfl, rfl, rfl, ⟨OLe.of (by show AObj.row 9 1 ((missS G (m.take i)).map D.str) (v + 1) = AObj.row 9 1 ((missS G (m.take (i + 1))).map D.str) (v + 1); rw [hst]), OLe.refl _, trivial⟩, ⟨AV.le_refl _, AV.le_refl _, AV.le_refl _, AV.le_refl _, AV.le_refl _, trivial⟩, rfl⟩
    · have he : i = m.length := by omega
      have hV : missV G m = missS G m := by simp [missV, hmb]
      rw [hV]
      subst he
      show SlRes 1 _ (.d (.list 1 ((missS G (m.take m.length)).map D.str)))
      rw [List.take_length]; exact .row
end Go.Proofs
end
section
/- Contracts: who answers to a name. -/
namespace Go.Proofs
open Go.Pm
set_option maxRecDepth 100000
set_option maxHeartbeats 4000000

def findP (t : Str) (p : Str × Str) : Bool := (lang p.1).isSome && decide (foldS p.2 = t)
def findB (t : Str) (o : Obj) : Bool := o.tags.any (findP t)
def findS (t : Str) (m : List Obj) : List Str := (m.filter (findB t)).map (·.id)
def findV (m : List Obj) (s : Str) : List Str := if mapB m && !decide (foldS s = []) then findS (foldS s) m else []
theorem findS_step {t : Str} {m : List Obj} {i : Nat} (h : i < m.length) : findS t (m.take (i + 1)) = findS t (m.take i) ++ (if findB t (m.getD i default) then [(m.getD i default).id] else []) := by
  unfold findS
  rw [take_succ_getD m i default h, List.filter_append, List.map_append]
  congr 1
  rw [List.filter_cons, List.filter_nil]
  cases hb : findB t (m.getD i default) <;> rfl
theorem findS_len (t : Str) (m : List Obj) : (findS t m).length ≤ m.length := by
  unfold findS; rw [List.length_map]; exact List.length_filter_le _ _
theorem mapB_tags {m : List Obj} (h : mapB m = true) {i : Nat} (hi : i < m.length) : tagsB (m.getD i default).tags = true := by
  simp only [mapB, Bool.and_eq_true, List.all_eq_true] at h
  have e : m.getD i default = m[i] := by rw [List.getD_eq_getElem?_getD, List.getElem?_eq_getElem hi]; rfl
  rw [e]
  have := h.1.1 m[i] (List.getElem_mem hi)
  simp only [objB, Bool.and_eq_true] at this
  exact this.1.1.1.2
theorem tagsB_len {L : List (Str × Str)} (h : tagsB L = true) : L.length ≤ 60 := by
  simp only [tagsB, Bool.and_eq_true, decide_eq_true_eq] at h; exact h.2
theorem tagsB_val {L : List (Str × Str)} (h : tagsB L = true) (j : Nat) : (L.getD j dT).2.length ≤ 1000000000000 := by
  simp only [tagsB, Bool.and_eq_true, List.all_eq_true] at h
  by_cases hj : j < L.length
  · have e : L.getD j dT = L[j] := by rw [List.getD_eq_getElem?_getD, List.getElem?_eq_getElem hj]; rfl
    rw [e]
    have := h.1.1 L[j] (List.getElem_mem hj)
    simp only [tagB, Bool.and_eq_true, decide_eq_true_eq] at this
    omega
  · rw [List.getD_eq_getElem?_getD, List.getElem?_eq_none (by omega)]; exact Nat.zero_le _
theorem findB_yes {t : Str} {o : Obj} {j : Nat} (hj : j < o.tags.length) (h : findP t (o.tags.getD j dT) = true) : findB t o = true := by
  unfold findB
  rw [List.any_eq_true]
  exact ⟨_, by rw [List.getD_eq_getElem?_getD, List.getElem?_eq_getElem hj]; exact List.getElem_mem hj, h⟩
theorem findB_no {t : Str} {o : Obj} (h : ∀ k, k < o.tags.length → findP t (o.tags.getD k dT) = false) : findB t o = false := by
  unfold findB
  rw [List.any_eq_false]
  intro g hg
  obtain ⟨k, hk, rfl⟩ := List.mem_iff_getElem.1 hg
  have e : o.tags.getD k dT = o.tags[k] := by rw [List.getD_eq_getElem?_getD, List.getElem?_eq_getElem hk]; rfl
  have := h k hk
  rw [e] at this
  rw [this]; simp
theorem c66 (m : List Obj) (s : Str) (hs : s.length ≤ 1000000000000) : PCall Try.prog 66 [.d (encMap m), .d (.str s)] fun x => x = .d (encStrs (findV m s)) := by
  refine PCall.strs ?_
  refine PCall.intro Try.tabOk Try.f66 _ Try.func66 rfl (by decide) rfl fun z => ?_
  repeat' first
    | (with_reducible refine AW.seq ?_)
    | ((with_reducible refine AW.region Try.tabOk ?_); (conv => whnf))
    | ((with_reducible refine AW.ret ?_); (conv => whnf))
    | ((with_reducible refine AW.block ?_))
    | (with_reducible refine AW.scope ?_)
    | ((with_reducible refine AW.label ?_); (conv => whnf))
    | ((with_reducible refine AW.skip ?_); (conv => whnf))
    | ((with_reducible refine AW.cond ?_); (conv => whnf))
    | ((with_reducible refine ACall.id ?_); (refine PCall.call (by first | exact c26 _ | exact c34 _ hs) rfl ?_); (intro x hx; first | subst hx | (obtain ⟨l_, rfl, hl_⟩ := hx.out)); (conv => whnf))
    | ((with_reducible apply Or.inl); apply Exists.intro; apply And.intro; (focus (intro hg; (conv => whnf); (repeat' first | (with_reducible exact ⟨rfl, rfl⟩) | ((with_reducible refine Own2.data ?_); (conv => whnf)) | (refine ⟨true, _, rfl, ?_⟩; (conv => whnf)) | (refine ⟨false, .nilp, rfl, ?_⟩; (conv => whnf)) | (refine ⟨_, _, by first | exact c26 _ | exact c34 _ hs, ?_⟩; (conv => whnf)) | ((with_reducible apply Or.inl); (refine ⟨rfl, rfl, ?_⟩); (conv => whnf)) | ((with_reducible apply Or.inl); (with_reducible apply And.intro); (focus (simp only [rng]; omega)); (conv => whnf)) | (refine ⟨by first | omega | (simp at hg ⊢; omega) | (simp_all; first | done | fail), ?_⟩; (conv => whnf)) | ((with_reducible refine ACall.id ?_); (refine PCall.call (by first | exact c26 _ | exact c34 _ hs) rfl ?_); (intro x hx; first | subst hx | (obtain ⟨l_, rfl, hl_⟩ := hx.out)); (conv => whnf)) | ((with_reducible apply Or.inr); (with_reducible apply And.intro) <;> (intro hb_; first | (cases hb_; done) | (conv => whnf))) | (intro hlen; (conv => whnf))); done)); (conv => whnf))
    | ((with_reducible apply And.intro); (focus (first | omega | (exact True.intro) | (simp; omega) | (exact Nat.le_of_ble_eq_true rfl) | (exact ⟨rfl, Nat.le_of_ble_eq_true rfl⟩) | (exact ⟨Nat.le_of_ble_eq_true rfl, Nat.le_of_ble_eq_true rfl⟩) | (intro hg; first | (simp; first | done | fail) | (simp at hg ⊢; exact hg) | (simp at hg; exact hg) | exact hg))); (conv => whnf))
    | ((with_reducible apply And.intro) <;> (intro hb; (try simp at hb); (try (exfalso; first | omega | (simp_all; first | done | fail))); (try (conv => whnf))))
    | (intro hlen; (conv => whnf))
  · refine .nil ?_
    rcases hb with hb | hb <;> simp [findV, hb]
  obtain ⟨hmb, hs0⟩ := hb
  have hm : m.length ≤ 1000000 := by simp only [mapB, Bool.and_eq_true, decide_eq_true_eq] at hmb; exact hmb.2
  have hV : findV m s = findS (foldS s) m := by simp [findV, hmb, hs0]
  refine AW.loopS (X := Nat × Nat) [22, 21, 6, 5] [1, 0] (fun x => [(23, .d (.int .i64 (x.1 : Int)))]) (fun x => match x.2 with
      | 0 => [(2, .var [.d .nils] 39)]
      | v + 1 => [(2, .var [.own 9 (v + 1) 1] 39), (9, .row 9 1 ((findS (foldS s) (m.take x.1)).map .str) (v + 1))]) (fun x => match x.2 with | 0 => 3 | _ + 1 => 10)
    (fun x => x.1 ≤ m.length ∧ (x.2 = 0 ↔ findS (foldS s) (m.take x.1) = [])) (fun x => m.length - x.1) (0, 0) ⟨Nat.zero_le _, by simp [findS]⟩ (fun x _ => by rcases x with ⟨_, _ | _⟩ <;> rfl) (by refine ⟨rfl, rfl, rfl, ?_, ?_⟩ <;> repeat' (first | exact trivial | exact OLe.refl _ | exact AV.le_refl _ | apply And.intro)) ?_
  intro ⟨i, v⟩ ⟨hi, hv⟩
  dsimp only at hi hv
  have hll := findS_len (foldS s) (m.take i)
  rw [List.length_take] at hll
  cases v with
  | zero =>
    have hnil : findS (foldS s) (m.take i) = [] := hv.1 rfl
    repeat' first
      | (with_reducible refine AW.seq ?_)
      | ((with_reducible refine AW.region Try.tabOk ?_); (conv => whnf))
      | ((with_reducible refine AW.ret ?_); (conv => whnf))
      | ((with_reducible refine AW.block ?_))
      | ((with_reducible refine AW.exit ?_); (conv => whnf))
      | ((with_reducible refine AW.skip ?_); (conv => whnf))
      | ((with_reducible refine AW.cond ?_); (conv => whnf))
      | ((with_reducible refine AW.rangeFunc rfl ?_); intro fn_; (conv => whnf); (refine And.intro ⟨Try.f103, Try.func103, by decide, rfl⟩ ?_); (refine ACall.intro Try.tabOk Try.f103 _ Try.func103 rfl (by decide) rfl ?_); intro z_)
      | ((with_reducible refine ACall.id ?_); (refine ACall.intro Try.tabOk Try.f75 _ Try.func75 rfl (by decide) rfl ?_); intro z_)
      | ((with_reducible apply And.intro); (focus (first | omega | (exact True.intro) | (simp; omega) | (exact Nat.le_of_ble_eq_true rfl) | (exact ⟨rfl, Nat.le_of_ble_eq_true rfl⟩) | (exact ⟨Nat.le_of_ble_eq_true rfl, Nat.le_of_ble_eq_true rfl⟩) | (intro hg; first | (simp; first | done | fail) | (simp at hg ⊢; exact hg) | (simp at hg; exact hg) | exact hg))); (conv => whnf))
      | ((with_reducible apply And.intro) <;> (intro hb; (try simp at hb); (try (exfalso; first | omega | (simp_all; first | done | fail))); (try (conv => whnf))))
      | (intro hlen; (conv => whnf))
    · have hlT : (m[i]?.getD default).tags.length ≤ 60 := by rw [← List.getD_eq_getElem?_getD]; exact tagsB_len (mapB_tags hmb (by assumption))
      refine AW.loopS (X := Nat) [8, 7, 0, 1] [5, 4, 3, 2, 1, 0] (fun j => [(9, .d (.int .i64 (j : Int)))]) (fun _ => []) (fun _ => 6)
        (fun j => j ≤ (m.getD i default).tags.length ∧ ∀ k, k < j → findP (foldS s) ((m.getD i default).tags.getD k dT) = false) (fun j => (m.getD i default).tags.length - j) 0 ⟨Nat.zero_le _, fun k h => absurd h (Nat.not_lt_zero k)⟩ (fun _ _ => rfl) (by refine ⟨rfl, rfl, rfl, ?_, ?_⟩ <;> repeat' (first | exact trivial | exact OLe.refl _ | exact AV.le_refl _ | apply And.intro)) ?_
      intro j ⟨hj, hw⟩
      have h34 : ((m.getD i default).tags.getD j dT).2.length ≤ 1000000000000 := tagsB_val (mapB_tags hmb (by assumption)) j
      repeat' first
        | (with_reducible refine AW.seq ?_)
        | ((with_reducible refine AW.region Try.tabOk ?_); (conv => whnf))
        | ((with_reducible refine AW.draw Try.tabOk Try.mixed ?_ ?_); (focus rfl); (conv => whnf))
        | ((with_reducible refine AW.ret ?_); (conv => whnf))
        | ((with_reducible refine AW.block ?_))
        | ((with_reducible refine AW.exit ?_); (conv => whnf))
        | ((with_reducible refine AW.skip ?_); (conv => whnf))
        | ((with_reducible refine AW.cond ?_); (conv => whnf))
        | ((with_reducible refine AYield.id ?_); (refine AYield.intro rfl rfl rfl ?_); intro z_)
        | ((with_reducible refine Own2.data ?_); (conv => whnf))
        | ((with_reducible refine ACall.id ?_); (refine PCall.call (by first | exact c104 _ | exact c34 _ h34) rfl ?_); (intro x hx; first | subst hx | (obtain ⟨l_, rfl, hl_⟩ := hx.out)); (conv => whnf))
        | (refine ⟨_, ⟨rfl, rfl⟩, ?_⟩; (conv => whnf))
        | ((with_reducible apply Or.inl); apply Exists.intro; apply And.intro; (focus (intro hg; (conv => whnf); (repeat' first | (with_reducible exact ⟨rfl, rfl⟩) | ((with_reducible refine Own2.data ?_); (conv => whnf)) | (refine ⟨true, _, rfl, ?_⟩; (conv => whnf)) | (refine ⟨false, .nilp, rfl, ?_⟩; (conv => whnf)) | (refine ⟨_, _, by first | exact c104 _ | exact c34 _ h34, ?_⟩; (conv => whnf)) | ((with_reducible apply Or.inl); (refine ⟨rfl, rfl, ?_⟩); (conv => whnf)) | ((with_reducible apply Or.inl); (with_reducible apply And.intro); (focus (simp only [rng]; omega)); (conv => whnf)) | (refine ⟨by first | omega | (simp at hg ⊢; omega) | (simp_all; first | done | fail), ?_⟩; (conv => whnf)) | ((with_reducible refine ACall.id ?_); (refine PCall.call (by first | exact c104 _ | exact c34 _ h34) rfl ?_); (intro x hx; first | subst hx | (obtain ⟨l_, rfl, hl_⟩ := hx.out)); (conv => whnf)) | ((with_reducible apply Or.inr); (with_reducible apply And.intro) <;> (intro hb_; first | (cases hb_; done) | (conv => whnf))) | (intro hlen; (conv => whnf))); done)); (conv => whnf))
        | (apply Exists.intro; apply And.intro; (focus (first | (intro hg; (conv => whnf)) | (conv => whnf)); (repeat' first | (with_reducible exact ⟨rfl, rfl⟩) | ((with_reducible refine Own2.data ?_); (conv => whnf)) | (refine ⟨true, _, rfl, ?_⟩; (conv => whnf)) | (refine ⟨false, .nilp, rfl, ?_⟩; (conv => whnf)) | (refine ⟨_, _, by first | exact c104 _ | exact c34 _ h34, ?_⟩; (conv => whnf)) | ((with_reducible apply Or.inl); (refine ⟨rfl, rfl, ?_⟩); (conv => whnf)) | ((with_reducible apply Or.inl); (with_reducible apply And.intro); (focus (simp only [rng]; omega)); (conv => whnf)) | (refine ⟨by first | omega | (simp at hg ⊢; omega) | (simp_all; first | done | fail), ?_⟩; (conv => whnf)) | ((with_reducible refine ACall.id ?_); (refine PCall.call (by first | exact c104 _ | exact c34 _ h34) rfl ?_); (intro x hx; first | subst hx | (obtain ⟨l_, rfl, hl_⟩ := hx.out)); (conv => whnf)) | ((with_reducible apply Or.inr); (with_reducible apply And.intro) <;> (intro hb_; first | (cases hb_; done) | (conv => whnf))) | (intro hlen; (conv => whnf))); done); (conv => whnf))
        | ((with_reducible apply Or.inl); (with_reducible apply And.intro); (focus (simp only [rng]; omega)); (conv => whnf))
        | ((with_reducible apply Or.inr); (with_reducible apply And.intro) <;> (intro hb; (try simp at hb); (try (exfalso; first | omega | (simp_all; first | done | fail))); (try (conv => whnf))))
        | ((with_reducible apply And.intro); (focus (first | omega | (exact True.intro) | (simp; omega) | (exact Nat.le_of_ble_eq_true rfl) | (exact ⟨rfl, Nat.le_of_ble_eq_true rfl⟩) | (exact ⟨Nat.le_of_ble_eq_true rfl, Nat.le_of_ble_eq_true rfl⟩) | (intro hg; first | (simp; first | done | fail) | (simp at hg ⊢; exact hg) | (simp at hg; exact hg) | exact hg))); (conv => whnf))
        | ((with_reducible apply And.intro) <;> (intro hb; (try simp at hb); (try (exfalso; first | omega | (simp_all; first | done | fail))); (try (conv => whnf))))
      all_goals have hit : i < m.length := by assumption
      all_goals have hst := findS_step (t := foldS s) hit
      · have hlit : j < (m[i]?.getD default).tags.length := by assumption
        have h1 : (lang ((m[i]?.getD default).tags[j]?.getD ([], [])).1).isSome = true := by assumption
        have h2 : foldS ((m[i]?.getD default).tags[j]?.getD ([], [])).2 = foldS s := by assumption
        simp only [← List.getD_eq_getElem?_getD] at hlit h1 h2
        have hf : findB (foldS s) (m.getD i default) = true := findB_yes hlit (by unfold findP; rw [show (lang ((m.getD i default).tags.getD j dT).1).isSome = true from h1, show foldS ((m.getD i default).tags.getD j dT).2 = foldS s from h2]; simp)
        rw [hf, if_pos rfl] at hst
        exact .mk (i + 1, 1) ⟨hit, by dsimp only; rw [hst]; simp⟩ (by show m.length - (i + 1) < m.length - i; omega) ⟨rfl, rfl, rfl, ⟨OLe.refl _, OLe.of (by show AObj.row 9 1 [D.str (m.getD i default).id] 1 = AObj.row 9 1 ((findS (foldS s) (m.take (i + 1))).map D.str) (1); rw [hst, hnil]; rfl), OLe.refl _, OLe.refl _, trivial⟩, ⟨AV.le_refl _, AV.le_refl _, AV.le_refl _, AV.le_refl _, AV.le_refl _, trivial⟩, rfl⟩
      · have hlit : j < (m[i]?.getD default).tags.length := by assumption
        have h2 : ¬foldS ((m[i]?.getD default).tags[j]?.getD ([], [])).2 = foldS s := by assumption
        simp only [← List.getD_eq_getElem?_getD] at hlit h2
        exact .mk (j + 1) ⟨hlit, fun k hk => by
          by_cases e : k = j
          · subst e; unfold findP; rw [decide_eq_false (show ¬foldS ((m.getD i default).tags.getD k dT).2 = foldS s from h2), Bool.and_false]
          · exact hw k (by omega)⟩ (by show (m.getD i default).tags.length - (j + 1) < (m.getD i default).tags.length - j; omega) (by refine ⟨rfl, rfl, rfl, ?_, ?_, rfl⟩ <;> repeat' (first | exact trivial | exact OLe.refl _ | exact AV.le_refl _ | apply And.intro))
      · have hlit : j < (m[i]?.getD default).tags.length := by assumption
        have h1 : lang ((m[i]?.getD default).tags[j]?.getD ([], [])).1 = none := by assumption
        simp only [← List.getD_eq_getElem?_getD] at hlit h1
        exact .mk (j + 1) ⟨hlit, fun k hk => by
          by_cases e : k = j
          · subst e; unfold findP; rw [show lang ((m.getD i default).tags.getD k dT).1 = none from h1]; rfl
          · exact hw k (by omega)⟩ (by show (m.getD i default).tags.length - (j + 1) < (m.getD i default).tags.length - j; omega) (by refine ⟨rfl, rfl, rfl, ?_, ?_, rfl⟩ <;> repeat' (first | exact trivial | exact OLe.refl _ | exact AV.le_refl _ | apply And.intro))
      · have hlit : (m[i]?.getD default).tags.length ≤ j := by assumption
        simp only [← List.getD_eq_getElem?_getD] at hlit
        have hf : findB (foldS s) (m.getD i default) = false := findB_no fun k hk => hw k (by omega)
        rw [hf, if_neg (by simp), List.append_nil] at hst
        exact .mk (i + 1, 0) ⟨hit, by dsimp only; rw [hst, hnil]; simp⟩ (by show m.length - (i + 1) < m.length - i; omega) (by refine ⟨rfl, rfl, rfl, ?_, ?_, rfl⟩ <;> repeat' (first | exact trivial | exact OLe.refl _ | exact AV.le_refl _ | apply And.intro))
    · have he : i = m.length := by omega
      have hnil2 : findS (foldS s) m = [] := by have := hv.1 rfl; rw [he, List.take_length] at this; exact this
      exact .nil (by rw [hV, hnil2]; rfl)
  | succ v =>
    have hne : findS (foldS s) (m.take i) ≠ [] := fun h => by have := hv.2 h; omega
    repeat' first
      | (with_reducible refine AW.seq ?_)
      | ((with_reducible refine AW.region Try.tabOk ?_); (conv => whnf))
      | ((with_reducible refine AW.ret ?_); (conv => whnf))
      | ((with_reducible refine AW.block ?_))
      | ((with_reducible refine AW.exit ?_); (conv => whnf))
      | ((with_reducible refine AW.skip ?_); (conv => whnf))
      | ((with_reducible refine AW.cond ?_); (conv => whnf))
      | ((with_reducible refine AW.rangeFunc rfl ?_); intro fn_; (conv => whnf); (refine And.intro ⟨Try.f103, Try.func103, by decide, rfl⟩ ?_); (refine ACall.intro Try.tabOk Try.f103 _ Try.func103 rfl (by decide) rfl ?_); intro z_)
      | ((with_reducible refine ACall.id ?_); (refine ACall.intro Try.tabOk Try.f75 _ Try.func75 rfl (by decide) rfl ?_); intro z_)
      | ((with_reducible apply And.intro); (focus (first | omega | (exact True.intro) | (simp; omega) | (exact Nat.le_of_ble_eq_true rfl) | (exact ⟨rfl, Nat.le_of_ble_eq_true rfl⟩) | (exact ⟨Nat.le_of_ble_eq_true rfl, Nat.le_of_ble_eq_true rfl⟩) | (intro hg; first | (simp; first | done | fail) | (simp at hg ⊢; exact hg) | (simp at hg; exact hg) | exact hg))); (conv => whnf))
      | ((with_reducible apply And.intro) <;> (intro hb; (try simp at hb); (try (exfalso; first | omega | (simp_all; first | done | fail))); (try (conv => whnf))))
      | (intro hlen; (conv => whnf))
    · have hlT : (m[i]?.getD default).tags.length ≤ 60 := by rw [← List.getD_eq_getElem?_getD]; exact tagsB_len (mapB_tags hmb (by assumption))
      refine AW.loopS (X := Nat) [8, 7, 0, 1] [12, 11, 10, 9, 2, 1, 0] (fun j => [(9, .d (.int .i64 (j : Int)))]) (fun _ => []) (fun _ => 13)
        (fun j => j ≤ (m.getD i default).tags.length ∧ ∀ k, k < j → findP (foldS s) ((m.getD i default).tags.getD k dT) = false) (fun j => (m.getD i default).tags.length - j) 0 ⟨Nat.zero_le _, fun k h => absurd h (Nat.not_lt_zero k)⟩ (fun _ _ => rfl) (by refine ⟨rfl, rfl, rfl, ?_, ?_⟩ <;> repeat' (first | exact trivial | exact OLe.refl _ | exact AV.le_refl _ | apply And.intro)) ?_
      intro j ⟨hj, hw⟩
      have h34 : ((m.getD i default).tags.getD j dT).2.length ≤ 1000000000000 := tagsB_val (mapB_tags hmb (by assumption)) j
      repeat' first
        | (with_reducible refine AW.seq ?_)
        | ((with_reducible refine AW.region Try.tabOk ?_); (conv => whnf))
        | ((with_reducible refine AW.draw Try.tabOk Try.mixed ?_ ?_); (focus rfl); (conv => whnf))
        | ((with_reducible refine AW.ret ?_); (conv => whnf))
        | ((with_reducible refine AW.block ?_))
        | ((with_reducible refine AW.exit ?_); (conv => whnf))
        | ((with_reducible refine AW.skip ?_); (conv => whnf))
        | ((with_reducible refine AW.cond ?_); (conv => whnf))
        | ((with_reducible refine AYield.id ?_); (refine AYield.intro rfl rfl rfl ?_); intro z_)
        | ((with_reducible refine Own2.data ?_); (conv => whnf))
        | ((with_reducible refine ACall.id ?_); (refine PCall.call (by first | exact c104 _ | exact c34 _ h34) rfl ?_); (intro x hx; first | subst hx | (obtain ⟨l_, rfl, hl_⟩ := hx.out)); (conv => whnf))
        | (refine ⟨_, ⟨rfl, rfl⟩, ?_⟩; (conv => whnf))
        | ((with_reducible apply Or.inl); apply Exists.intro; apply And.intro; (focus (intro hg; (conv => whnf); (repeat' first | (with_reducible exact ⟨rfl, rfl⟩) | ((with_reducible refine Own2.data ?_); (conv => whnf)) | (refine ⟨true, _, rfl, ?_⟩; (conv => whnf)) | (refine ⟨false, .nilp, rfl, ?_⟩; (conv => whnf)) | (refine ⟨_, _, by first | exact c104 _ | exact c34 _ h34, ?_⟩; (conv => whnf)) | ((with_reducible apply Or.inl); (refine ⟨rfl, rfl, ?_⟩); (conv => whnf)) | ((with_reducible apply Or.inl); (with_reducible apply And.intro); (focus (simp only [rng]; omega)); (conv => whnf)) | (refine ⟨by first | omega | (simp at hg ⊢; omega) | (simp_all; first | done | fail), ?_⟩; (conv => whnf)) | ((with_reducible refine ACall.id ?_); (refine PCall.call (by first | exact c104 _ | exact c34 _ h34) rfl ?_); (intro x hx; first | subst hx | (obtain ⟨l_, rfl, hl_⟩ := hx.out)); (conv => whnf)) | ((with_reducible apply Or.inr); (with_reducible apply And.intro) <;> (intro hb_; first | (cases hb_; done) | (conv => whnf))) | (intro hlen; (conv => whnf))); done)); (conv => whnf))
        | (apply Exists.intro; apply And.intro; (focus (first | (intro hg; (conv => whnf)) | (conv => whnf)); (repeat' first | (with_reducible exact ⟨rfl, rfl⟩) | ((with_reducible refine Own2.data ?_); (conv => whnf)) | (refine ⟨true, _, rfl, ?_⟩; (conv => whnf)) | (refine ⟨false, .nilp, rfl, ?_⟩; (conv => whnf)) | (refine ⟨_, _, by first | exact c104 _ | exact c34 _ h34, ?_⟩; (conv => whnf)) | ((with_reducible apply Or.inl); (refine ⟨rfl, rfl, ?_⟩); (conv => whnf)) | ((with_reducible apply Or.inl); (with_reducible apply And.intro); (focus (simp only [rng]; omega)); (conv => whnf)) | (refine ⟨by first | omega | (simp at hg ⊢; omega) | (simp_all; first | done | fail), ?_⟩; (conv => whnf)) | ((with_reducible refine ACall.id ?_); (refine PCall.call (by first | exact c104 _ | exact c34 _ h34) rfl ?_); (intro x hx; first | subst hx | (obtain ⟨l_, rfl, hl_⟩ := hx.out)); (conv => whnf)) | ((with_reducible apply Or.inr); (with_reducible apply And.intro) <;> (intro hb_; first | (cases hb_; done) | (conv => whnf))) | (intro hlen; (conv => whnf))); done); (conv => whnf))
        | ((with_reducible apply Or.inl); (with_reducible apply And.intro); (focus (simp only [rng]; omega)); (conv => whnf))
        | ((with_reducible apply Or.inr); (with_reducible apply And.intro) <;> (intro hb; (try simp at hb); (try (exfalso; first | omega | (simp_all; first | done | fail))); (try (conv => whnf))))
        | ((with_reducible apply And.intro); (focus (first | omega | (exact True.intro) | (simp; omega) | (exact Nat.le_of_ble_eq_true rfl) | (exact ⟨rfl, Nat.le_of_ble_eq_true rfl⟩) | (exact ⟨Nat.le_of_ble_eq_true rfl, Nat.le_of_ble_eq_true rfl⟩) | (intro hg; first | (simp; first | done | fail) | (simp at hg ⊢; exact hg) | (simp at hg; exact hg) | exact hg))); (conv => whnf))
        | ((with_reducible apply And.intro) <;> (intro hb; (try simp at hb); (try (exfalso; first | omega | (simp_all; first | done | fail))); (try (conv => whnf))))
        | ((with_reducible refine And.intro (Side.out ?_) ?_); rotate_left; (conv => whnf); rotate_right)
      all_goals have hit : i < m.length := by assumption
      all_goals have hst := findS_step (t := foldS s) hit
      · exact ⟨rfl, by simp; omega, by simp [maxLen]; omega⟩
      · have hlit : j < (m[i]?.getD default).tags.length := by assumption
        have h1 : (lang ((m[i]?.getD default).tags[j]?.getD ([], [])).1).isSome = true := by assumption
        have h2 : foldS ((m[i]?.getD default).tags[j]?.getD ([], [])).2 = foldS s := by assumption
        simp only [← List.getD_eq_getElem?_getD] at hlit h1 h2
        have hf : findB (foldS s) (m.getD i default) = true := findB_yes hlit (by unfold findP; rw [show (lang ((m.getD i default).tags.getD j dT).1).isSome = true from h1, show foldS ((m.getD i default).tags.getD j dT).2 = foldS s from h2]; simp)
        rw [hf, if_pos rfl] at hst
        exact .mk (i + 1, v + 2) ⟨hit, by dsimp only; rw [hst]; simp⟩ (by show m.length - (i + 1) < m.length - i; omega) ⟨rfl, rfl, rfl, ⟨OLe.refl _, OLe.of (by show AObj.row 9 1 ((findS (foldS s) (m.take i)).map D.str ++ [D.str (m.getD i default).id]) (v + 2) = AObj.row 9 1 ((findS (foldS s) (m.take (i + 1))).map D.str) (v + 2); rw [hst]; simp), OLe.refl _, OLe.refl _, trivial⟩, ⟨AV.le_refl _, AV.le_refl _, AV.le_refl _, AV.le_refl _, AV.le_refl _, trivial⟩, rfl⟩
      · have hlit : j < (m[i]?.getD default).tags.length := by assumption
        have h2 : ¬foldS ((m[i]?.getD default).tags[j]?.getD ([], [])).2 = foldS s := by assumption
        simp only [← List.getD_eq_getElem?_getD] at hlit h2
        exact .mk (j + 1) ⟨hlit, fun k hk => by
          by_cases e : k = j
          · subst e; unfold findP; rw [decide_eq_false (show ¬foldS ((m.getD i default).tags.getD k dT).2 = foldS s from h2), Bool.and_false]
          · exact hw k (by omega)⟩ (by show (m.getD i default).tags.length - (j + 1) < (m.getD i default).tags.length - j; omega) (by refine ⟨rfl, rfl, rfl, ?_, ?_, rfl⟩ <;> repeat' (first | exact trivial | exact OLe.refl _ | exact AV.le_refl _ | apply And.intro))
      · have hlit : j < (m[i]?.getD default).tags.length := by assumption
        have h1 : lang ((m[i]?.getD default).tags[j]?.getD ([], [])).1 = none := by assumption
        simp only [← List.getD_eq_getElem?_getD] at hlit h1
        exact .mk (j + 1) ⟨hlit, fun k hk => by
          by_cases e : k = j
          · subst e; unfold findP; rw [show lang ((m.getD i default).tags.getD k dT).1 = none from h1]; rfl
          · exact hw k (by omega)⟩ (by show (m.getD i default).tags.length - (j + 1) < (m.getD i default).tags.length - j; omega) (by refine ⟨rfl, rfl, rfl, ?_, ?_, rfl⟩ <;> repeat' (first | exact trivial | exact OLe.refl _ | exact AV.le_refl _ | apply And.intro))
      · have hlit : (m[i]?.getD default).tags.length ≤ j := by assumption
        simp only [← List.getD_eq_getElem?_getD] at hlit
        have hf : findB (foldS s) (m.getD i default) = false := findB_no fun k hk => hw k (by omega)
        rw [hf, if_neg (by simp), List.append_nil] at hst
        exact .mk (i + 1, v + 1) ⟨hit, by dsimp only; rw [hst]; simp [hne]⟩ (by show m.length - (i + 1) < m.length - i; omega) ⟨rfl, rfl, rfl, ⟨OLe.refl _, OLe.of (by show AObj.row 9 1 ((findS (foldS s) (m.take i)).map D.str) (v + 1) = AObj.row 9 1 ((findS (foldS s) (m.take (i + 1))).map D.str) (v + 1); rw [hst]), OLe.refl _, OLe.refl _, trivial⟩, ⟨AV.le_refl _, AV.le_refl _, AV.le_refl _, AV.le_refl _, AV.le_refl _, trivial⟩, rfl⟩
    · have he : i = m.length := by omega
      rw [hV]
      subst he
      show SlRes 1 _ (.d (.list 1 ((findS (foldS s) (m.take m.length)).map D.str)))
      rw [List.take_length]; exact .row
end Go.Proofs
end
section
/- Law 18: the head. -/
namespace Go.Proofs
open Go.Pm
set_option maxRecDepth 100000
set_option maxHeartbeats 4000000

theorem lsLe_map {α : Type} {f : Nat → D} {g : α → D} : ∀ (L : List α) (k : Nat), (∀ i, i < L.length → (L.map g)[i]? = some (f (k + i))) → LsLe (L.map g) f k
  | [], _, _ => trivial
  | x :: r, k, h => by
    have h0 := h 0 (by simp)
    simp at h0
    refine ⟨?_, lsLe_map r (k + 1) fun i hi => ?_⟩
    · rw [← h0]; exact CsLe.refl _
    · have := h (i + 1) (by simpa using hi)
      rw [show k + 1 + i = k + (i + 1) by omega]; simpa using this
theorem le_strs (L : List Str) : DLe (.list 1 (L.map .str)) (encStrs L) :=
  DLe.list (by simp) (lsLe_map L 0 fun i hi => by simp [List.getD_eq_getElem?_getD, hi])
theorem le_tags (L : List (Str × Str)) : DLe (.list 2 (L.map encTag)) (encTags L) :=
  DLe.list (by simp) (lsLe_map L 0 fun i hi => by simp [List.getD_eq_getElem?_getD, hi])
theorem le_nstrs : DLe .nils (encStrs []) := DLe.nils
theorem le_ntags : DLe .nils (encTags []) := DLe.nils
theorem le_map0 : DLe (.agg [.nils]) (encMap []) := DLe.agg ⟨DLe.nils, rfl, trivial⟩
def romeT : List (Str × Str) := [(nameS, [82, 111, 109, 101]), ([110, 97, 109, 101, 95, 105, 116], [82, 111, 109, 97])]
def itS : Str := [105, 116]
def deS : Str := [100, 101]
def romeM : List Obj := [⟨[110], 1, 0, 0, [], romeT⟩, ⟨[111], 1, 0, 0, [], []⟩]
theorem le_romeM : DLe (.agg [.list 6 [.agg [.str [110], .int .i64 1, .int .i64 0, .int .i64 0, .nils, .list 2 (romeT.map encTag)], .agg [.str [111], .int .i64 1, .int .i64 0, .int .i64 0, .nils, .nils]]]) (encMap romeM) :=
  DLe.agg ⟨DLe.list rfl ⟨⟨DLe.refl _, rfl, DLe.refl _, rfl, DLe.refl _, rfl, DLe.refl _, rfl, le_nstrs, rfl, le_tags romeT, rfl, trivial⟩,
    ⟨DLe.refl _, rfl, DLe.refl _, rfl, DLe.refl _, rfl, DLe.refl _, rfl, le_nstrs, rfl, le_ntags, rfl, trivial⟩, trivial⟩, rfl, trivial⟩
theorem h33a : PCall Try.prog 39 [.d (.list 2 (romeT.map encTag)), .d (.list 1 ([itS, deS].map .str))] fun x => x = .tup [.d (.str [82, 111, 109, 97]), .d (.str [110, 97, 109, 101, 95, 105, 116])] := by
  have h := (c39 romeT [itS, deS] (by decide)).le (args' := [.d (.list 2 (romeT.map encTag)), .d (.list 1 ([itS, deS].map .str))]) ⟨(le_tags romeT).av, (le_strs [itS, deS]).av, trivial⟩
  rwa [show best romeT [itS, deS] = ([82, 111, 109, 97], [110, 97, 109, 101, 95, 105, 116]) by decide] at h
theorem h33b : PCall Try.prog 39 [.d (.list 2 (romeT.map encTag)), .d (.list 1 ([deS].map .str))] fun x => x = .tup [.d (.str [82, 111, 109, 101]), .d (.str nameS)] := by
  have h := (c39 romeT [deS] (by decide)).le (args' := [.d (.list 2 (romeT.map encTag)), .d (.list 1 ([deS].map .str))]) ⟨(le_tags romeT).av, (le_strs [deS]).av, trivial⟩
  rwa [show best romeT [deS] = ([82, 111, 109, 101], nameS) by decide] at h
theorem h33c : PCall Try.prog 38 [.d (.list 2 (romeT.map encTag))] fun x => x = .d (encStrs [[], itS]) := by
  have h := (c38 romeT).le (args' := [.d (.list 2 (romeT.map encTag))]) ⟨(le_tags romeT).av, trivial⟩
  rwa [show langsV romeT = [[], itS] by decide] at h
theorem h33d (a b : List Str) : PCall Try.prog 65 [.d (encStrs a), .d (.list 1 (b.map .str))] fun x => x = .d (.bool (a == b)) :=
  (c65 a b).le ⟨AV.le_refl _, (le_strs b).av, trivial⟩
theorem h33e : PCall Try.prog 34 [.d (.str [32, 32, 82, 79, 77, 65, 32, 32, 78, 111, 114, 100, 32])] fun x => x = .d (.str [114, 111, 109, 97, 32, 110, 111, 114, 100]) := by
  have h := c34 [32, 32, 82, 79, 77, 65, 32, 32, 78, 111, 114, 100, 32] (by decide)
  rwa [show foldS [32, 32, 82, 79, 77, 65, 32, 32, 78, 111, 114, 100, 32] = [114, 111, 109, 97, 32, 110, 111, 114, 100] by decide] at h
def romeD : D := .agg [.list 6 [.agg [.str [110], .int .i64 1, .int .i64 0, .int .i64 0, .nils, .list 2 (romeT.map encTag)], .agg [.str [111], .int .i64 1, .int .i64 0, .int .i64 0, .nils, .nils]]]
theorem h33f : PCall Try.prog 66 [.d romeD, .d (.str [32, 82, 79, 77, 65])] fun x => x = .d (encStrs [[110]]) := by
  have h := (c66 romeM [32, 82, 79, 77, 65] (by decide)).le (args' := [.d romeD, .d (.str [32, 82, 79, 77, 65])]) ⟨le_romeM.av, AV.le_refl _, trivial⟩
  rwa [show findV romeM [32, 82, 79, 77, 65] = [[110]] by decide] at h
theorem h33g : PCall Try.prog 67 [.d romeD, .d (.list 1 ([deS, itS].map .str))] fun x => x = .d (encStrs [[110]]) := by
  have h := (c67 romeM [deS, itS]).le (args' := [.d romeD, .d (.list 1 ([deS, itS].map .str))]) ⟨le_romeM.av, (le_strs [deS, itS]).av, trivial⟩
  rwa [show missV [deS, itS] romeM = [[110]] by decide] at h
theorem h33h : PCall Try.prog 67 [.d romeD, .d (.list 1 ([itS, []].map .str))] fun x => x = .d (encStrs []) := by
  have h := (c67 romeM [itS, []]).le (args' := [.d romeD, .d (.list 1 ([itS, []].map .str))]) ⟨le_romeM.av, (le_strs [itS, []]).av, trivial⟩
  rwa [show missV [itS, []] romeM = [] by decide] at h
theorem c33 : PCall Try.prog 33 [] fun x => x = .d (.bool true) := by
  refine PCall.intro Try.tabOk Try.f33 _ Try.func33 rfl (by decide) rfl fun z => ?_
  repeat' first
    | (with_reducible refine AW.seq ?_)
    | ((with_reducible refine AW.region Try.tabOk ?_); (conv => whnf))
    | ((with_reducible refine AW.ret ?_); (conv => whnf))
    | ((with_reducible refine Own2.data ?_); (conv => whnf))
    | ((with_reducible refine ACall.id ?_); (refine PCall.call (by first | exact h33a | exact h33b | exact h33c | exact h33d [[], itS] [[], itS] | exact h33e | exact h33f | exact h33g | exact h33h | exact h33d [[110]] [[110]]) rfl ?_); (intro x hx; first | subst hx | (obtain ⟨l_, rfl, hl_⟩ := hx.out)); (conv => whnf))
    | ((with_reducible apply Or.inl); apply Exists.intro; apply And.intro; (focus (intro hg; (conv => whnf); (repeat' first | (with_reducible exact ⟨rfl, rfl⟩) | ((with_reducible refine Own2.data ?_); (conv => whnf)) | (refine ⟨true, _, rfl, ?_⟩; (conv => whnf)) | (refine ⟨false, .nilp, rfl, ?_⟩; (conv => whnf)) | (refine ⟨_, _, by first | exact h33a | exact h33b | exact h33c | exact h33d [[], itS] [[], itS] | exact h33e | exact h33f | exact h33g | exact h33h | exact h33d [[110]] [[110]], ?_⟩; (conv => whnf)) | ((with_reducible apply Or.inl); (refine ⟨rfl, rfl, ?_⟩); (conv => whnf)) | ((with_reducible apply Or.inl); (with_reducible apply And.intro); (focus (simp only [rng]; omega)); (conv => whnf)) | (refine ⟨by first | omega | (simp at hg ⊢; omega) | (simp_all; first | done | fail), ?_⟩; (conv => whnf)) | ((with_reducible refine ACall.id ?_); (refine PCall.call (by first | exact h33a | exact h33b | exact h33c | exact h33d [[], itS] [[], itS] | exact h33e | exact h33f | exact h33g | exact h33h | exact h33d [[110]] [[110]]) rfl ?_); (intro x hx; first | subst hx | (obtain ⟨l_, rfl, hl_⟩ := hx.out)); (conv => whnf)) | ((with_reducible apply Or.inr); (with_reducible apply And.intro) <;> (intro hb_; first | (cases hb_; done) | (conv => whnf))) | (intro hlen; (conv => whnf))); done)); (conv => whnf))
    | ((with_reducible apply Or.inr); (with_reducible apply And.intro) <;> (intro hb; (try simp at hb); (try (exfalso; first | omega | (simp_all; first | done | fail))); (try (conv => whnf))))
    | ((with_reducible apply And.intro); (focus (first | omega | (exact True.intro) | (simp; omega) | (exact Nat.le_of_ble_eq_true rfl) | (exact ⟨rfl, Nat.le_of_ble_eq_true rfl⟩) | (exact ⟨Nat.le_of_ble_eq_true rfl, Nat.le_of_ble_eq_true rfl⟩) | (intro hg; first | (simp; first | done | fail) | (simp at hg ⊢; exact hg) | (simp at hg; exact hg) | exact hg))); (conv => whnf))
    | (intro hlen; (conv => whnf))
    | ((with_reducible refine And.intro (Side.out ?_) ?_); rotate_left; (conv => whnf); rotate_right)
  · exact ⟨by decide⟩
  · exact ⟨by decide⟩
  · exact ⟨by decide⟩
  · rfl
  · exact absurd rfl (by assumption)
end Go.Proofs
end
section
/- Plain laws of names' languages and of the best name. -/
namespace Go.Proofs
open Go.Pm
set_option maxRecDepth 100000

theorem idx_of {G : List Str} {v : Str} (h : v ∈ G) : 0 ≤ idx G v ∧ (idx G v).toNat < G.length ∧ G.getD (idx G v).toNat [] = v ∧ ∀ j, j < (idx G v).toNat → G.getD j [] ≠ v := by
  have hf : ∃ i, i < G.length ∧ G.getD i [] = v := by
    obtain ⟨i, hi, rfl⟩ := List.mem_iff_getElem.1 h
    exact ⟨i, hi, by rw [List.getD_eq_getElem?_getD, List.getElem?_eq_getElem hi]; rfl⟩
  have hmin : ∃ i, (i < G.length ∧ G.getD i [] = v) ∧ ∀ j, j < i → ¬(j < G.length ∧ G.getD j [] = v) := by
    obtain ⟨i, hi⟩ := hf
    induction i using Nat.strongRecOn with
    | _ i ih =>
      by_cases h : ∃ j, j < i ∧ (j < G.length ∧ G.getD j [] = v)
      · obtain ⟨j, h1, h2⟩ := h
        exact ih j h1 h2
      · exact ⟨i, hi, fun j hj hk => h ⟨j, hj, hk⟩⟩
  obtain ⟨i, ⟨hi, hv⟩, hw⟩ := hmin
  have e : idx G v = (i : Int) := idx_found hi hv.symm fun j hj e => hw j hj ⟨by omega, e.symm⟩
  rw [e]
  exact ⟨by omega, by simpa using hi, by simpa using hv, fun j hj e => hw j (by simpa using hj) ⟨by omega, e⟩⟩
theorem idx_not {G : List Str} {v : Str} (h : ¬v ∈ G) : idx G v = -1 :=
  idx_none fun j hj e => h (by rw [e, List.getD_eq_getElem?_getD, List.getElem?_eq_getElem hj]; exact List.getElem_mem hj)
theorem lang_key {k l : Str} (h : lang k = some l) : k = if l = [] then nameS else name_S ++ l := by
  unfold lang at h
  split at h
  · rename_i hk
    obtain rfl := Option.some.inj h
    simpa using hk
  · split at h
    · rename_i h1 h2
      obtain rfl := Option.some.inj h
      simp only [Bool.and_eq_true] at h2
      have h3 := (pre5 k).1 h2.1
      have h4 := h2.2
      simp only [langTail, Bool.and_eq_true, decide_eq_true_eq] at h4
      rw [if_neg (fun e => by rw [e] at h4; simp at h4), ← h3, List.take_append_drop]
    · cases h
theorem lang_inj {k k' l : Str} (h : lang k = some l) (h' : lang k' = some l) : k = k' := by rw [lang_key h, lang_key h']
theorem lang_lt {k k' l l' : Str} (h : lang k = some l) (h' : lang k' = some l') (hlt : ltS k k' = true) : ltS l l' = true := by
  have e := lang_key h
  have e' := lang_key h'
  by_cases hl : l = []
  · by_cases hl' : l' = []
    · rw [if_pos hl] at e
      rw [if_pos hl'] at e'
      rw [e, e', ltS_irrefl] at hlt; cases hlt
    · rw [hl]; exact nil_lt hl'
  · rw [if_neg hl] at e
    by_cases hl' : l' = []
    · rw [if_pos hl'] at e'
      rw [e, e'] at hlt
      have : ltS (name_S ++ l) nameS = false := by simp [name_S, nameS, ltS_cons, ltS_nil]
      rw [this] at hlt; cases hlt
    · rw [if_neg hl'] at e'
      rw [e, e'] at hlt
      simpa [name_S, ltS_cons] using hlt
theorem ascP_pair {l : List Str} (h : ascP l) : l.Pairwise fun a b => ltS a b = true := by
  induction l with
  | nil => exact .nil
  | cons x r ih =>
    have hr : ascP r := fun i hi => by
      have := h (i + 1) (by simpa using hi)
      simpa using this
    refine .cons ?_ (ih hr)
    intro y hy
    have ih := ih hr
    cases r with
    | nil => cases hy
    | cons z q =>
      have h0 : ltS x z = true := by have := h 0 (by simp); simpa using this
      rcases List.mem_cons.1 hy with rfl | hy
      · exact h0
      · cases ih with
        | cons h1 _ => exact ltS_trans h0 (h1 y hy)
theorem tagsB_asc {L : List (Str × Str)} (h : tagsB L = true) : L.Pairwise fun a b => ltS a.1 b.1 = true := by
  simp only [tagsB, Bool.and_eq_true, decide_eq_true_eq] at h
  have := ascP_pair h.1.2
  rwa [List.pairwise_map] at this
theorem langs_asc {L : List (Str × Str)} (h : tagsB L = true) : (langs L).Pairwise fun a b => ltS a b = true := by
  have h := tagsB_asc h
  unfold langs
  rw [List.pairwise_filterMap]
  exact h.imp fun {a b} hlt x hx y hy => lang_lt hx hy hlt
theorem langsV_lt {L : List (Str × Str)} {i : Nat} (hi : i + 1 < (langsV L).length) : ltS ((langsV L).getD i []) ((langsV L).getD (i + 1) []) = true := by
  unfold langsV at hi ⊢
  by_cases h : tagsB L = true
  · rw [if_pos h] at hi ⊢
    have := List.pairwise_iff_getElem.1 (langs_asc h) i (i + 1) (by omega) hi (by omega)
    simpa [List.getD_eq_getElem?_getD, hi, show i < (langs L).length by omega] using this
  · rw [if_neg h] at hi; exact absurd hi (Nat.not_lt_zero _)
theorem langs_mem {L : List (Str × Str)} {l : Str} : l ∈ langs L ↔ ∃ j, j < L.length ∧ lang (L.getD j dT).1 = some l := by
  unfold langs
  rw [List.mem_filterMap]
  constructor
  · rintro ⟨p, hp, h⟩
    obtain ⟨j, hj, rfl⟩ := List.mem_iff_getElem.1 hp
    exact ⟨j, hj, by rw [List.getD_eq_getElem?_getD, List.getElem?_eq_getElem hj]; exact h⟩
  · rintro ⟨j, hj, h⟩
    refine ⟨L[j], List.getElem_mem hj, ?_⟩
    rw [List.getD_eq_getElem?_getD, List.getElem?_eq_getElem hj] at h; exact h
theorem key_inj {L : List (Str × Str)} (h : tagsB L = true) {i j : Nat} (hi : i < L.length) (hj : j < L.length) (e : (L.getD i dT).1 = (L.getD j dT).1) : i = j := by
  have hp := List.pairwise_iff_getElem.1 (tagsB_asc h)
  have gi : L.getD i dT = L[i] := by rw [List.getD_eq_getElem?_getD, List.getElem?_eq_getElem hi]; rfl
  have gj : L.getD j dT = L[j] := by rw [List.getD_eq_getElem?_getD, List.getElem?_eq_getElem hj]; rfl
  rw [gi, gj] at e
  rcases Nat.lt_trichotomy i j with h1 | h1 | h1
  · have := hp i j hi hj h1; rw [e, ltS_irrefl] at this; cases this
  · exact h1
  · have := hp j i hj hi h1; rw [e, ltS_irrefl] at this; cases this

theorem atL_range (G : List Str) (l : Str) : 0 ≤ atL G l ∧ atL G l < (G.length : Int) + 2 := by
  unfold atL
  by_cases h : l ∈ G
  · have := idx_of h
    rw [if_pos this.1]; omega
  · rw [idx_not h, if_neg (by omega)]
    split <;> omega
/-- The entry at place i is the first best. -/
structure IsBest (G : List Str) (L : List (Str × Str)) (n i : Nat) (l : Str) : Prop where
  lt : i < n
  own : lang (L.getD i dT).1 = some l
  val : bestF G (L.take n) = (L.getD i dT, atL G l)
  min : ∀ j, j < n → ∀ l', lang (L.getD j dT).1 = some l' → atL G l ≤ atL G l'
theorem bestF_inv (G : List Str) (L : List (Str × Str)) : ∀ n, n ≤ L.length → ((∀ j, j < n → lang (L.getD j dT).1 = none) ∧ bestF G (L.take n) = (([], []), (G.length : Int) + 2)) ∨ ∃ i l, IsBest G L n i l
  | 0, _ => .inl ⟨fun j h => absurd h (Nat.not_lt_zero j), rfl⟩
  | n + 1, hn => by
    have hs := bestF_step (G := G) (show n < L.length by omega)
    rcases bestF_inv G L n (by omega) with ⟨h1, h2⟩ | ⟨i, l, h⟩
    · rw [h2] at hs
      cases hl : lang (L.getD n dT).1 with
      | none =>
        refine .inl ⟨fun j hj => ?_, ?_⟩
        · by_cases e : j = n
          · rw [e]; exact hl
          · exact h1 j (by omega)
        · rw [hs]; unfold bestStep; rw [hl]
      | some l =>
        refine .inr ⟨n, l, by omega, hl, ?_, fun j hj l' hl' => ?_⟩
        · rw [hs]; unfold bestStep; rw [hl]
          exact if_pos (atL_range G l).2
        · by_cases e : j = n
          · rw [e, hl] at hl'; rw [Option.some.inj hl']; exact Int.le_refl _
          · rw [h1 j (by omega)] at hl'; cases hl'
    · rw [h.val] at hs
      cases hl : lang (L.getD n dT).1 with
      | none =>
        refine .inr ⟨i, l, Nat.lt_succ_of_lt h.lt, h.own, ?_, fun j hj l' hl' => ?_⟩
        · rw [hs]; unfold bestStep; rw [hl]
        · by_cases e : j = n
          · rw [e, hl] at hl'; cases hl'
          · exact h.min j (by omega) l' hl'
      | some l2 =>
        by_cases hc : atL G l2 < atL G l
        · refine .inr ⟨n, l2, by omega, hl, ?_, fun j hj l' hl' => ?_⟩
          · rw [hs]; unfold bestStep; rw [hl]; exact if_pos hc
          · by_cases e : j = n
            · rw [e, hl] at hl'; rw [Option.some.inj hl']; exact Int.le_refl _
            · have := h.min j (by omega) l' hl'; omega
        · refine .inr ⟨i, l, Nat.lt_succ_of_lt h.lt, h.own, ?_, fun j hj l' hl' => ?_⟩
          · rw [hs]; unfold bestStep; rw [hl]; exact if_neg hc
          · by_cases e : j = n
            · rw [e, hl] at hl'; rw [← Option.some.inj hl']; omega
            · exact h.min j (by omega) l' hl'
/-- The best name of valid tags. -/
theorem best_inv {L : List (Str × Str)} (h : tagsB L = true) (G : List Str) : (langsV L = [] ∧ best L G = ([], [])) ∨ ∃ i l, i < L.length ∧ lang (L.getD i dT).1 = some l ∧ best L G = ((L.getD i dT).2, (L.getD i dT).1) ∧ ∀ l' ∈ langsV L, atL G l ≤ atL G l' := by
  have hV : langsV L = langs L := if_pos h
  have hB : best L G = ((bestF G L).1.2, (bestF G L).1.1) := if_pos h
  rcases bestF_inv G L L.length (Nat.le_refl _) with ⟨h1, h2⟩ | ⟨i, l, hi⟩
  · rw [List.take_length] at h2
    refine .inl ⟨?_, by rw [hB, h2]⟩
    rw [hV, List.eq_nil_iff_forall_not_mem]
    intro l hl
    obtain ⟨j, hj, hk⟩ := langs_mem.1 hl
    rw [h1 j hj] at hk; cases hk
  · have hv := hi.val
    rw [List.take_length] at hv
    refine .inr ⟨i, l, hi.lt, hi.own, by rw [hB, hv], fun l' hl' => ?_⟩
    rw [hV] at hl'
    obtain ⟨j, hj, hk⟩ := langs_mem.1 hl'
    exact hi.min j hj l' hk
theorem best_one {L : List (Str × Str)} (h : tagsB L = true) {l : Str} (hl : l ∈ langsV L) : lang (best L [l]).2 = some l := by
  rcases best_inv h [l] with ⟨h1, _⟩ | ⟨i, l', h1, h2, h3, h4⟩
  · rw [h1] at hl; cases hl
  · rw [h3]
    have h5 := h4 l hl
    have h6 : atL [l] l = 0 := by have := idx_found (L := [l]) (v := l) (i := 0) (by simp) rfl (fun j h => absurd h (Nat.not_lt_zero j)); simp [atL, this]
    have : l' ∈ [l] := by
      by_cases hm : l' ∈ [l]
      · exact hm
      · have h7 : 1 ≤ atL [l] l' := by
          unfold atL; rw [idx_not hm, if_neg (by omega)]; split <;> simp
        omega
    rw [List.mem_singleton] at this
    rw [← this]; exact h2
theorem best_other {L : List (Str × Str)} {t : Str} (ht : ¬t ∈ langsV L) : best L [t] = best L [] := by
  by_cases h : tagsB L = true
  · have hV : langsV L = langs L := if_pos h
    rw [hV] at ht
    have hs : ∀ n, n ≤ L.length → bestF [t] (L.take n) = ((bestF [] (L.take n)).1, (bestF [] (L.take n)).2 + 1) := by
      intro n
      induction n with
      | zero => intro _; rfl
      | succ n ih =>
        intro hn
        rw [bestF_step (by omega), bestF_step (by omega), ih (by omega)]
        generalize bestF [] (L.take n) = b
        unfold bestStep
        cases hl : lang (L.getD n dT).1 with
        | none => rfl
        | some l =>
          have hne : ¬l ∈ [t] := fun e => ht (by
            rw [List.mem_singleton] at e
            rw [← e]; exact langs_mem.2 ⟨n, by omega, hl⟩)
          have e : atL [t] l = atL [] l + 1 := by
            unfold atL
            rw [idx_not hne, idx_not (G := []) (by simp)]
            simp only [show ¬(0 : Int) ≤ -1 by omega, if_false]
            by_cases hl0 : l = [] <;> simp [hl0]
          show (if atL [t] l < b.2 + 1 then (L.getD n dT, atL [t] l) else (b.1, b.2 + 1)) = ((if atL [] l < b.2 then (L.getD n dT, atL [] l) else b).1, (if atL [] l < b.2 then (L.getD n dT, atL [] l) else b).2 + 1)
          rw [e]
          by_cases hc : atL [] l < b.2
          · rw [if_pos (by omega), if_pos hc]
          · rw [if_neg (by omega), if_neg hc]
    have := hs L.length (Nat.le_refl _)
    rw [List.take_length] at this
    unfold best
    rw [if_pos h, if_pos h, this]
  · unfold best; rw [if_neg h, if_neg h]
theorem atL_mem {G : List Str} {l : Str} (h : l ∈ G) : atL G l = idx G l := if_pos (idx_of h).1
theorem atL_out {G : List Str} {l : Str} (h : ¬l ∈ G) : (G.length : Int) ≤ atL G l := by
  unfold atL; rw [idx_not h, if_neg (by omega)]; split <;> omega
theorem idx_app {G : List Str} {f l : Str} (h : l ∈ G) : idx (G ++ [f]) l = idx G l := by
  obtain ⟨h1, h2, h3, h4⟩ := idx_of h
  have gl : ∀ j, j < G.length → (G ++ [f]).getD j [] = G.getD j [] := fun j hj => by
    rw [List.getD_eq_getElem?_getD, List.getElem?_append_left hj, List.getD_eq_getElem?_getD]
  rw [idx_found (L := G ++ [f]) (i := (idx G l).toNat) (by simp; omega) (by rw [gl _ h2]; exact h3.symm) fun j hj e => h4 j hj (by rw [← gl j (by omega)]; exact e.symm)]
  omega
theorem idx_inj {G : List Str} {a b : Str} (ha : a ∈ G) (hb : b ∈ G) (e : idx G a = idx G b) : a = b := by
  rw [← (idx_of ha).2.2.1, ← (idx_of hb).2.2.1, e]
/-- A further language at the end changes nothing where the best is in one that was asked for. -/
theorem best_further {L : List (Str × Str)} (h : tagsB L = true) {G : List Str} {f l : Str} (hl : lang (best L G).2 = some l) (hG : l ∈ G) : best L (G ++ [f]) = best L G := by
  rcases best_inv h G with ⟨_, h2⟩ | ⟨i, l1, h1, h2, h3, h4⟩
  · rw [h2] at hl; cases hl
  · rw [h3] at hl ⊢
    obtain rfl : l1 = l := Option.some.inj (h2.symm.trans hl)
    have hV : langsV L = langs L := if_pos h
    have hm1 : l1 ∈ langsV L := by rw [hV]; exact langs_mem.2 ⟨i, h1, h2⟩
    rcases best_inv h (G ++ [f]) with ⟨k1, _⟩ | ⟨j, l2, k1, k2, k3, k4⟩
    · rw [k1] at hm1; cases hm1
    · have hm2 : l2 ∈ langsV L := by rw [hV]; exact langs_mem.2 ⟨j, k1, k2⟩
      have e1 := k4 l1 hm1
      have e2 := h4 l2 hm2
      rw [atL_mem hG] at e2
      rw [atL_mem (List.mem_append_left _ hG), idx_app hG] at e1
      have b1 := idx_of hG
      have hG2 : l2 ∈ G := by
        by_cases hm : l2 ∈ G
        · exact hm
        · exfalso
          by_cases hm' : l2 ∈ G ++ [f]
          · have c1 := idx_of hm'
            rw [atL_mem hm'] at e1
            apply hm
            have : (idx (G ++ [f]) l2).toNat < G.length := by omega
            rw [← c1.2.2.1, List.getD_eq_getElem?_getD, List.getElem?_append_left this, List.getElem?_eq_getElem this]
            exact List.getElem_mem this
          · have := atL_out hm'
            rw [List.length_append] at this
            simp only [List.length_cons, List.length_nil] at this
            omega
      rw [atL_mem (List.mem_append_left _ hG2), idx_app hG2] at e1
      rw [atL_mem hG2] at e2
      have : l1 = l2 := idx_inj hG hG2 (by omega)
      rw [← this] at k2
      have : i = j := key_inj h h1 k1 (lang_inj h2 k2)
      rw [k3, this]
theorem best_before {L : List (Str × Str)} (h : tagsB L = true) {G : List Str} {l : Str} (hl : lang (best L G).2 = some l) {j : Nat} (hj : j < G.length) (hw : ∀ k, k ≤ j → G.getD k [] ≠ l) : ¬G.getD j [] ∈ langsV L := by
  intro hm
  rcases best_inv h G with ⟨_, h2⟩ | ⟨i, l1, h1, h2, h3, h4⟩
  · rw [h2] at hl; cases hl
  · rw [h3] at hl
    obtain rfl : l1 = l := Option.some.inj (h2.symm.trans hl)
    have e := h4 _ hm
    have hjm : G.getD j [] ∈ G := by rw [List.getD_eq_getElem?_getD, List.getElem?_eq_getElem hj]; exact List.getElem_mem hj
    rw [atL_mem hjm] at e
    have b := idx_of hjm
    have hle : (idx G (G.getD j [])).toNat ≤ j := by
      by_cases hc : (idx G (G.getD j [])).toNat ≤ j
      · exact hc
      · exact absurd rfl (b.2.2.2 j (by omega))
    by_cases hG : l1 ∈ G
    · rw [atL_mem hG] at e
      have c := idx_of hG
      exact hw (idx G l1).toNat (by omega) c.2.2.1
    · have := atL_out hG
      omega
theorem best_key {L : List (Str × Str)} (h : tagsB L = true) (G : List Str) : ((best L G).2 = [] ↔ langsV L = []) ∧ ((best L G).2 = [] → (best L G).1 = []) ∧
    ((best L G).2 ≠ [] → getT L (best L G).2 = some (best L G).1 ∧ ∃ l, lang (best L G).2 = some l ∧ l ∈ langsV L) := by
  have hV : langsV L = langs L := if_pos h
  rcases best_inv h G with ⟨h1, h2⟩ | ⟨i, l, h1, h2, h3, h4⟩
  · rw [h2]; exact ⟨⟨fun _ => h1, fun _ => rfl⟩, fun _ => rfl, fun e => absurd rfl e⟩
  · have hm : l ∈ langsV L := by rw [hV]; exact langs_mem.2 ⟨i, h1, h2⟩
    have hk : (L.getD i dT).1 ≠ [] := fun e => by
      rw [e, show lang [] = none from rfl] at h2; cases h2
    rw [h3]
    refine ⟨⟨fun e => absurd e hk, fun e => by rw [e] at hm; cases hm⟩, fun e => absurd e hk, fun _ => ⟨getT_some h1 rfl fun j hj e => ?_, l, h2, hm⟩⟩
    have := key_inj h (by omega) h1 e
    omega
end Go.Proofs
end
section
/- Law 18: languages. -/
namespace Go.Proofs
open Go.Pm
set_option maxRecDepth 100000
set_option maxHeartbeats 4000000

theorem le_agg1 {x : D} (hx : x.one = true) : AV.le (.agg [.d x]) (.d (.agg [x])) := by
  intro n μ w v h
  cases h with
  | agg _ vs hl ho h =>
    refine .d _ _ (.agg [x] vs hl (fun i c hc => ?_) fun i c v hc hv => ?_)
    · match i, hc with
      | 0, hc => rw [← Option.some.inj hc]; exact hx
      | i + 1, hc => simp at hc
    · match i, hc with
      | 0, hc =>
        obtain rfl := Option.some.inj hc
        have := h 0 _ v rfl hv
        cases this; assumption
      | i + 1, hc => simp at hc
theorem le_map0' : AV.le (.agg [.d .nils]) (.d (encMap [])) := AV.le_trans (le_agg1 rfl) le_map0.av
theorem c36n (l : List (Str × Str)) (L : List Str) : PCall Try.prog 36 [.d (encTags l), .d (encStrs L), .agg [.d .nils]] fun x => x = .d (.bool (few9 l 70 && few18 L 20 && few12 [] 30)) :=
  (c36 l L [] (fun o h => by cases h)).le ⟨AV.le_refl _, AV.le_refl _, le_map0', trivial⟩
theorem c36m (l : List (Str × Str)) : PCall Try.prog 36 [.d (encTags l), .d .nils, .agg [.d .nils]] fun x => x = .d (.bool (few9 l 70 && few18 [] 20 && few12 [] 30)) :=
  (c36 l [] [] (fun o h => by cases h)).le ⟨AV.le_refl _, le_nstrs.av, le_map0', trivial⟩
theorem c39n (l : List (Str × Str)) : PCall Try.prog 39 [.d (encTags l), .d .nils] fun x => x = .tup [.d (.str (best l []).1), .d (.str (best l []).2)] :=
  (c39 l [] (by decide)).le ⟨AV.le_refl _, le_nstrs.av, trivial⟩
theorem c39s (l : List (Str × Str)) (L : List Str) (hL : L.length ≤ 1000000000000000) : PCall Try.prog 39 [.d (encTags l), .d (.list 1 (L.map .str))] fun x => x = .tup [.d (.str (best l L).1), .d (.str (best l L).2)] :=
  (c39 l L hL).le ⟨AV.le_refl _, (le_strs L).av, trivial⟩
theorem c41' (L : List Str) (v : Str) : PCall Try.prog 41 [.d (encStrs L), .d (.str v)] fun x => x = .d (.bool (L.contains v)) := by
  have := c41 L v
  rwa [idx_has] at this
theorem langsV_len {L : List (Str × Str)} : (langsV L).length ≤ 60 := by
  unfold langsV
  by_cases h : tagsB L = true
  · rw [if_pos h]
    have h1 := langs_len L
    have h2 := tagsB_len h
    omega
  · rw [if_neg h]; exact Nat.zero_le _
theorem c39i (l : List (Str × Str)) (L : List Str) (i : Nat) : PCall Try.prog 39 [.d (encTags l), .d (.tab 1 (((i : Int) + 1).toNat - (i : Int).toNat) fun k => (fun j => D.str (L.getD j [])) ((i : Int).toNat + k))] fun x => x = .tup [.d (.str (best l [L.getD i []]).1), .d (.str (best l [L.getD i []]).2)] := by
  refine (c39 l [L.getD i []] (by simp)).le ⟨AV.le_refl _, DLe.av ?_, trivial⟩
  rw [show ((i : Int) + 1).toNat - (i : Int).toNat = 1 by omega]
  refine DLe.tab fun k hk => ?_
  have : k = 0 := by omega
  subst this
  rfl
theorem c11 (l : List (Str × Str)) (t : Str) : PCall Try.prog 11 [.d (encTags l), .d (.str t)] fun x => x = .d (.bool true) := by
  refine PCall.intro Try.tabOk Try.f11 _ Try.func11 rfl (by decide) rfl fun z => ?_
  repeat' first
    | (with_reducible refine AW.seq ?_)
    | ((with_reducible refine AW.region Try.tabOk ?_); (conv => whnf))
    | ((with_reducible refine AW.ret ?_); (conv => whnf))
    | ((with_reducible refine AW.block ?_))
    | ((with_reducible refine AW.skip ?_); (conv => whnf))
    | ((with_reducible refine AW.cond ?_); (conv => whnf))
    | ((with_reducible refine ACall.id ?_); (refine PCall.call (by first | exact c33 | exact c36m _ | exact c37 _ | exact c38 _) rfl ?_); (intro x hx; first | subst hx | (obtain ⟨l_, rfl, hl_⟩ := hx.out)); (conv => whnf))
    | ((with_reducible apply Or.inl); apply Exists.intro; apply And.intro; (focus (intro hg; (conv => whnf); (repeat' first | (with_reducible exact ⟨rfl, rfl⟩) | ((with_reducible refine Own2.data ?_); (conv => whnf)) | (refine ⟨true, _, rfl, ?_⟩; (conv => whnf)) | (refine ⟨false, .nilp, rfl, ?_⟩; (conv => whnf)) | (refine ⟨_, _, by first | exact c33 | exact c36m _ | exact c37 _ | exact c38 _, ?_⟩; (conv => whnf)) | ((with_reducible apply Or.inl); (refine ⟨rfl, rfl, ?_⟩); (conv => whnf)) | ((with_reducible apply Or.inl); (with_reducible apply And.intro); (focus (simp only [rng]; omega)); (conv => whnf)) | (refine ⟨by first | omega | (simp at hg ⊢; omega) | (simp_all; first | done | fail), ?_⟩; (conv => whnf)) | ((with_reducible refine ACall.id ?_); (refine PCall.call (by first | exact c33 | exact c36m _ | exact c37 _ | exact c38 _) rfl ?_); (intro x hx; first | subst hx | (obtain ⟨l_, rfl, hl_⟩ := hx.out)); (conv => whnf)) | ((with_reducible apply Or.inr); (with_reducible apply And.intro) <;> (intro hb_; first | (cases hb_; done) | (conv => whnf))) | (intro hlen; (conv => whnf))); done)); (conv => whnf))
    | ((with_reducible apply And.intro); (focus (first | omega | (exact True.intro) | (simp; omega) | (exact Nat.le_of_ble_eq_true rfl) | (exact ⟨rfl, Nat.le_of_ble_eq_true rfl⟩) | (exact ⟨Nat.le_of_ble_eq_true rfl, Nat.le_of_ble_eq_true rfl⟩) | (intro hg; first | (simp; first | done | fail) | (simp at hg ⊢; exact hg) | (simp at hg; exact hg) | exact hg))); (conv => whnf))
    | ((with_reducible apply And.intro) <;> (intro hb; (try simp at hb); (try (exfalso; first | omega | (simp_all; first | done | fail))); (try (conv => whnf))))
  refine AW.loopS (X := Nat) [6, 5, 0, 1] [] (fun i => [(7, .d (.int .i64 (i : Int)))]) (fun _ => []) (fun _ => 0)
    (fun i => i ≤ (langsV l).length) (fun i => (langsV l).length - i) 0 (Nat.zero_le _) (fun _ _ => rfl) (by refine ⟨rfl, rfl, rfl, ?_, ?_⟩ <;> repeat' (first | exact trivial | exact OLe.refl _ | exact AV.le_refl _ | apply And.intro)) ?_
  intro i hi
  have hlen60 := langsV_len (L := l)
  repeat' first
    | (with_reducible refine AW.seq ?_)
    | ((with_reducible refine AW.region Try.tabOk ?_); (conv => whnf))
    | ((with_reducible refine AW.draw Try.tabOk Try.mixed ?_ ?_); (focus rfl); (conv => whnf))
    | ((with_reducible refine AW.ret ?_); (conv => whnf))
    | ((with_reducible refine AW.block ?_))
    | ((with_reducible refine AW.exit ?_); (conv => whnf))
    | ((with_reducible refine AW.skip ?_); (conv => whnf))
    | ((with_reducible refine AW.cond ?_); (conv => whnf))
    | ((with_reducible refine Own2.data ?_); (conv => whnf))
    | ((with_reducible refine ACall.id ?_); (refine PCall.call (by first | exact c39n _ | exact c39i _ _ _ | exact c39s _ [t] (by simp) | exact c40 _ | exact c41' _ _) rfl ?_); (intro x hx; first | subst hx | (obtain ⟨l_, rfl, hl_⟩ := hx.out)); (conv => whnf))
    | (refine ⟨_, ⟨rfl, rfl⟩, ?_⟩; (conv => whnf))
    | ((with_reducible apply Or.inl); apply Exists.intro; apply And.intro; (focus (intro hg; (conv => whnf); (repeat' first | (with_reducible exact ⟨rfl, rfl⟩) | ((with_reducible refine Own2.data ?_); (conv => whnf)) | (refine ⟨true, _, rfl, ?_⟩; (conv => whnf)) | (refine ⟨false, .nilp, rfl, ?_⟩; (conv => whnf)) | (refine ⟨_, _, by first | exact c39n _ | exact c39i _ _ _ | exact c39s _ [t] (by simp) | exact c40 _ | exact c41' _ _, ?_⟩; (conv => whnf)) | ((with_reducible apply Or.inl); (refine ⟨rfl, rfl, ?_⟩); (conv => whnf)) | ((with_reducible apply Or.inl); (with_reducible apply And.intro); (focus (simp only [rng]; omega)); (conv => whnf)) | (refine ⟨by first | omega | (simp at hg ⊢; omega) | (simp_all; first | done | fail), ?_⟩; (conv => whnf)) | ((with_reducible refine ACall.id ?_); (refine PCall.call (by first | exact c39n _ | exact c39i _ _ _ | exact c39s _ [t] (by simp) | exact c40 _ | exact c41' _ _) rfl ?_); (intro x hx; first | subst hx | (obtain ⟨l_, rfl, hl_⟩ := hx.out)); (conv => whnf)) | ((with_reducible apply Or.inr); (with_reducible apply And.intro) <;> (intro hb_; first | (cases hb_; done) | (conv => whnf))) | (intro hlen; (conv => whnf))); done)); (conv => whnf))
    | (apply Exists.intro; apply And.intro; (focus (first | (intro hg; (conv => whnf)) | (conv => whnf)); (repeat' first | (with_reducible exact ⟨rfl, rfl⟩) | ((with_reducible refine Own2.data ?_); (conv => whnf)) | (refine ⟨true, _, rfl, ?_⟩; (conv => whnf)) | (refine ⟨false, .nilp, rfl, ?_⟩; (conv => whnf)) | (refine ⟨_, _, by first | exact c39n _ | exact c39i _ _ _ | exact c39s _ [t] (by simp) | exact c40 _ | exact c41' _ _, ?_⟩; (conv => whnf)) | ((with_reducible apply Or.inl); (refine ⟨rfl, rfl, ?_⟩); (conv => whnf)) | ((with_reducible apply Or.inl); (with_reducible apply And.intro); (focus (simp only [rng]; omega)); (conv => whnf)) | (refine ⟨by first | omega | (simp at hg ⊢; omega) | (simp_all; first | done | fail), ?_⟩; (conv => whnf)) | ((with_reducible refine ACall.id ?_); (refine PCall.call (by first | exact c39n _ | exact c39i _ _ _ | exact c39s _ [t] (by simp) | exact c40 _ | exact c41' _ _) rfl ?_); (intro x hx; first | subst hx | (obtain ⟨l_, rfl, hl_⟩ := hx.out)); (conv => whnf)) | ((with_reducible apply Or.inr); (with_reducible apply And.intro) <;> (intro hb_; first | (cases hb_; done) | (conv => whnf))) | (intro hlen; (conv => whnf))); done); (conv => whnf))
    | ((with_reducible apply Or.inl); (with_reducible apply And.intro); (focus (simp only [rng]; omega)); (conv => whnf))
    | ((with_reducible apply And.intro); (focus (first | omega | (exact True.intro) | (simp; omega) | (exact Nat.le_of_ble_eq_true rfl) | (exact ⟨rfl, Nat.le_of_ble_eq_true rfl⟩) | (exact ⟨Nat.le_of_ble_eq_true rfl, Nat.le_of_ble_eq_true rfl⟩) | (intro hg; first | (simp; first | done | fail) | (simp at hg ⊢; exact hg) | (simp at hg; exact hg) | exact hg))); (conv => whnf))
    | ((with_reducible apply And.intro) <;> (intro hb; (try simp at hb); (try (exfalso; first | omega | (simp_all; first | done | fail))); (try (conv => whnf))))
    | (intro hlen; (conv => whnf))
  · rename_i hb
    have hit : i < (langsV l).length := by assumption
    have hT : tagsB l = true := by
      have := (by assumption : (((few9 l 70 = true ∧ few18 [] 20 = true) ∧ few12 [] 30 = true) ∧ (t.length : Int) ≤ 30) ∧ tagsB l = true)
      exact this.2
    exfalso
    have e : (langsV l)[i]?.getD [] = (langsV l)[i] := by rw [List.getElem?_eq_getElem hit]; rfl
    have h1 := best_one hT (List.getElem_mem hit)
    rw [e, h1] at hb
    rcases hb with (hb | hb) | ⟨h0, hb⟩
    · cases hb
    · exact hb rfl
    · have h2 := langsV_lt (L := l) (i := i - 1) (by omega)
      rw [show i - 1 + 1 = i by omega, List.getD_eq_getElem?_getD, List.getD_eq_getElem?_getD, e] at h2
      rw [show ltS _ _ = Op.bytesLess _ _ from rfl] at h2
      rw [h2] at hb; cases hb
  · exact .mk (i + 1) (by assumption) (by show (langsV l).length - (i + 1) < (langsV l).length - i; omega) (by refine ⟨rfl, rfl, rfl, ?_, ?_, rfl⟩ <;> repeat' (first | exact trivial | exact OLe.refl _ | exact AV.le_refl _ | apply And.intro))
  · by_cases hm : t ∈ langsV l
    · simp [hm]
    · rw [best_other hm]; simp
end Go.Proofs
end
section
/- Law 18: the best name. -/
namespace Go.Proofs
open Go.Pm
set_option maxRecDepth 100000
set_option maxHeartbeats 4000000

theorem few18_len {L : List Str} {n : Int} (h : few18 L n = true) : (L.length : Int) ≤ n := by
  simp only [few18, Bool.and_eq_true, decide_eq_true_eq] at h; exact h.1
theorem c39f (l : List (Str × Str)) (L : List Str) (t : Str) (hL : L.length ≤ 20) : PCall Try.prog 39 [.d (encTags l), .d (.list 1 (([] ++ tabl L.length fun i => D.str (L.getD i [])) ++ [D.str t]))] fun x => x = .tup [.d (.str (best l (L ++ [t])).1), .d (.str (best l (L ++ [t])).2)] := by
  have e : (([] ++ tabl L.length fun i => D.str (L.getD i [])) ++ [D.str t]) = (L ++ [t]).map .str := by
    rw [List.nil_append, List.map_append]
    congr 1
    apply List.ext_getElem?
    intro i
    by_cases hi : i < L.length
    · rw [tabl_get _ _ _ hi]; simp [hi]
    · rw [List.getElem?_eq_none (by rw [tabl_length]; omega), List.getElem?_eq_none (by rw [List.length_map]; omega)]
  rw [e]
  exact (c39 l (L ++ [t]) (by simp; omega)).le ⟨AV.le_refl _, (le_strs _).av, trivial⟩
theorem upto_le {p : Nat → Prop} {i : Nat} (hw : ∀ k, k < i → p k) (hi : p i) : ∀ k, k ≤ i → p k := fun k hk => by
  by_cases e : k = i
  · subst e; exact hi
  · exact hw k (by omega)
theorem c12 (l : List (Str × Str)) (L : List Str) (t : Str) : PCall Try.prog 12 [.d (encTags l), .d (encStrs L), .d (.str t)] fun x => x = .d (.bool true) := by
  refine PCall.intro Try.tabOk Try.f12 _ Try.func12 rfl (by decide) rfl fun z => ?_
  repeat' first
    | (with_reducible refine AW.seq ?_)
    | ((with_reducible refine AW.region Try.tabOk ?_); (conv => whnf))
    | ((with_reducible refine AW.ret ?_); (conv => whnf))
    | ((with_reducible refine AW.skip ?_); (conv => whnf))
    | ((with_reducible refine AW.cond ?_); (conv => whnf))
    | ((with_reducible refine ACall.id ?_); (refine PCall.call (by first | exact c33 | exact c36n _ _ | exact c37 _) rfl ?_); (intro x hx; first | subst hx | (obtain ⟨l_, rfl, hl_⟩ := hx.out)); (conv => whnf))
    | ((with_reducible apply Or.inl); apply Exists.intro; apply And.intro; (focus (intro hg; (conv => whnf); (repeat' first | (with_reducible exact ⟨rfl, rfl⟩) | ((with_reducible refine Own2.data ?_); (conv => whnf)) | (refine ⟨true, _, rfl, ?_⟩; (conv => whnf)) | (refine ⟨false, .nilp, rfl, ?_⟩; (conv => whnf)) | (refine ⟨_, _, by first | exact c33 | exact c36n _ _ | exact c37 _, ?_⟩; (conv => whnf)) | ((with_reducible apply Or.inl); (refine ⟨rfl, rfl, ?_⟩); (conv => whnf)) | ((with_reducible apply Or.inl); (with_reducible apply And.intro); (focus (simp only [rng]; omega)); (conv => whnf)) | (refine ⟨by first | omega | (simp at hg ⊢; omega) | (simp_all; first | done | fail), ?_⟩; (conv => whnf)) | ((with_reducible refine ACall.id ?_); (refine PCall.call (by first | exact c33 | exact c36n _ _ | exact c37 _) rfl ?_); (intro x hx; first | subst hx | (obtain ⟨l_, rfl, hl_⟩ := hx.out)); (conv => whnf)) | ((with_reducible apply Or.inr); (with_reducible apply And.intro) <;> (intro hb_; first | (cases hb_; done) | (conv => whnf))) | (intro hlen; (conv => whnf))); done)); (conv => whnf))
    | ((with_reducible apply And.intro); (focus (first | omega | (exact True.intro) | (simp; omega) | (exact Nat.le_of_ble_eq_true rfl) | (exact ⟨rfl, Nat.le_of_ble_eq_true rfl⟩) | (exact ⟨Nat.le_of_ble_eq_true rfl, Nat.le_of_ble_eq_true rfl⟩) | (intro hg; first | (simp; first | done | fail) | (simp at hg ⊢; exact hg) | (simp at hg; exact hg) | exact hg))); (conv => whnf))
    | ((with_reducible apply And.intro) <;> (intro hb; (try simp at hb); (try (exfalso; first | omega | (simp_all; first | done | fail))); (try (conv => whnf))))
  have hb := (by assumption : (((few9 l 70 = true ∧ few18 L 20 = true) ∧ few12 [] 30 = true) ∧ (t.length : Int) ≤ 30) ∧ tagsB l = true)
  have hL := few18_len hb.1.1.1.2
  have hT := hb.2
  have hK := (best_key hT L).1
  repeat' first
    | (with_reducible refine AW.seq ?_)
    | ((with_reducible refine AW.region Try.tabOk ?_); (conv => whnf))
    | ((with_reducible refine AW.ret ?_); (conv => whnf))
    | ((with_reducible refine AW.block ?_))
    | ((with_reducible refine AW.skip ?_); (conv => whnf))
    | ((with_reducible refine AW.cond ?_); (conv => whnf))
    | ((with_reducible refine Own2.own ?_); (conv => whnf))
    | ((with_reducible refine ACall.id ?_); (refine PCall.call (by first | exact c38 _ | exact c39 _ _ (by omega) | exact c39f _ _ _ (by omega) | exact c40 _ | exact c41' _ _ | exact c42 _ _) rfl ?_); (intro x hx; first | subst hx | (obtain ⟨l_, rfl, hl_⟩ := hx.out)); (conv => whnf))
    | ((with_reducible refine ACall.freeze rfl ?_); (conv => whnf))
    | ((with_reducible apply Or.inl); apply Exists.intro; apply And.intro; (focus (intro hg; (conv => whnf); (repeat' first | (with_reducible exact ⟨rfl, rfl⟩) | ((with_reducible refine Own2.own ?_); (conv => whnf)) | (refine ⟨true, _, rfl, ?_⟩; (conv => whnf)) | (refine ⟨false, .nilp, rfl, ?_⟩; (conv => whnf)) | (refine ⟨_, _, by first | exact c38 _ | exact c39 _ _ (by omega) | exact c39f _ _ _ (by omega) | exact c40 _ | exact c41' _ _ | exact c42 _ _, ?_⟩; (conv => whnf)) | ((with_reducible apply Or.inl); (refine ⟨rfl, rfl, ?_⟩); (conv => whnf)) | ((with_reducible apply Or.inl); (with_reducible apply And.intro); (focus (simp only [rng]; omega)); (conv => whnf)) | (refine ⟨by first | omega | (simp at hg ⊢; omega) | (simp_all; first | done | fail), ?_⟩; (conv => whnf)) | ((with_reducible refine ACall.id ?_); (refine PCall.call (by first | exact c38 _ | exact c39 _ _ (by omega) | exact c39f _ _ _ (by omega) | exact c40 _ | exact c41' _ _ | exact c42 _ _) rfl ?_); (intro x hx; first | subst hx | (obtain ⟨l_, rfl, hl_⟩ := hx.out)); (conv => whnf)) | ((with_reducible apply Or.inr); (with_reducible apply And.intro) <;> (intro hb_; first | (cases hb_; done) | (conv => whnf))) | (intro hlen; (conv => whnf))); done)); (conv => whnf))
    | ((with_reducible apply And.intro); (focus (first | omega | (exact True.intro) | (simp; omega) | (exact Nat.le_of_ble_eq_true rfl) | (exact ⟨rfl, Nat.le_of_ble_eq_true rfl⟩) | (exact ⟨Nat.le_of_ble_eq_true rfl, Nat.le_of_ble_eq_true rfl⟩) | (intro hg; first | (simp; first | done | fail) | (simp at hg ⊢; exact hg) | (simp at hg; exact hg) | exact hg))); (conv => whnf))
    | ((with_reducible apply And.intro) <;> (intro hb; (try simp at hb); (try (exfalso; first | omega | (simp_all; first | done | fail))); (try (conv => whnf))))
    | (intro hlen; (conv => whnf))
    | ((with_reducible refine And.intro (Side.out ?_) ?_); rotate_left; (conv => whnf); rotate_right)
  all_goals have hK2 := best_key hT L
  · rename_i hb hK2
    exfalso
    rcases hb with hb | ⟨h1, hb⟩
    · apply hb
      rw [Bool.eq_iff_iff]
      simp [hK]
    · have h3 := (hK2.2.2 h1).1
      rw [h3] at hb
      simp at hb
  · rename_i hb hK2
    rw [hK2.2.1 hb]; rfl
  · rename_i hb hK2
    exfalso
    obtain ⟨_, l1, h3, h4⟩ := hK2.2.2 (by assumption)
    rw [h3] at hb
    simp [h4] at hb
  · exact ⟨rfl, by rw [tabl_length]; simp; omega, by rw [tabl_length]; simp [maxLen]; omega⟩
  · exact ⟨rfl, by rw [List.nil_append, tabl_length]; simp; omega, by rw [List.nil_append, tabl_length]; simp [maxLen]; omega⟩
  · rename_i hb hK2
    exfalso
    obtain ⟨_, l1, h3, h4⟩ := hK2.2.2 (by assumption)
    have h5 := (by assumption : (lang (best l L).2).getD [] ∈ L)
    rw [h3] at h5
    have := best_further hT (f := t) h3 h5
    rw [this] at hb
    simp at hb
  · obtain ⟨_, l1, h3, h4⟩ := hK2.2.2 (by assumption)
    refine AW.loopS (X := Nat) [13, 10, 7, 1] [] (fun i => [(17, .d (.int .i64 (i : Int)))]) (fun _ => []) (fun _ => 2)
      (fun i => i ≤ L.length ∧ ∀ k, k < i → L.getD k [] ≠ l1) (fun i => L.length - i) 0 ⟨Nat.zero_le _, fun k h => absurd h (Nat.not_lt_zero k)⟩ (fun _ _ => rfl) (by refine ⟨rfl, rfl, rfl, ?_, ?_⟩ <;> repeat' (first | exact trivial | exact OLe.refl _ | exact AV.le_refl _ | apply And.intro)) ?_
    intro i ⟨hi, hw⟩
    repeat' first
      | (with_reducible refine AW.seq ?_)
      | ((with_reducible refine AW.region Try.tabOk ?_); (conv => whnf))
      | ((with_reducible refine AW.ret ?_); (conv => whnf))
      | ((with_reducible refine AW.block ?_))
      | ((with_reducible refine AW.exit ?_); (conv => whnf))
      | ((with_reducible refine AW.skip ?_); (conv => whnf))
      | ((with_reducible refine AW.cond ?_); (conv => whnf))
      | ((with_reducible refine ACall.id ?_); (refine PCall.call (by first | exact c41' _ _) rfl ?_); (intro x hx; first | subst hx | (obtain ⟨l_, rfl, hl_⟩ := hx.out)); (conv => whnf))
      | ((with_reducible apply Or.inl); apply Exists.intro; apply And.intro; (focus (intro hg; (conv => whnf); (repeat' first | (with_reducible exact ⟨rfl, rfl⟩) | ((with_reducible refine Own2.data ?_); (conv => whnf)) | (refine ⟨true, _, rfl, ?_⟩; (conv => whnf)) | (refine ⟨false, .nilp, rfl, ?_⟩; (conv => whnf)) | (refine ⟨_, _, by first | exact c41' _ _, ?_⟩; (conv => whnf)) | ((with_reducible apply Or.inl); (refine ⟨rfl, rfl, ?_⟩); (conv => whnf)) | ((with_reducible apply Or.inl); (with_reducible apply And.intro); (focus (simp only [rng]; omega)); (conv => whnf)) | (refine ⟨by first | omega | (simp at hg ⊢; omega) | (simp_all; first | done | fail), ?_⟩; (conv => whnf)) | ((with_reducible refine ACall.id ?_); (refine PCall.call (by first | exact c41' _ _) rfl ?_); (intro x hx; first | subst hx | (obtain ⟨l_, rfl, hl_⟩ := hx.out)); (conv => whnf)) | ((with_reducible apply Or.inr); (with_reducible apply And.intro) <;> (intro hb_; first | (cases hb_; done) | (conv => whnf))) | (intro hlen; (conv => whnf))); done)); (conv => whnf))
      | ((with_reducible apply Or.inl); (with_reducible apply And.intro); (focus (simp only [rng]; omega)); (conv => whnf))
      | ((with_reducible apply And.intro); (focus (first | omega | (exact True.intro) | (simp; omega) | (exact Nat.le_of_ble_eq_true rfl) | (exact ⟨rfl, Nat.le_of_ble_eq_true rfl⟩) | (exact ⟨Nat.le_of_ble_eq_true rfl, Nat.le_of_ble_eq_true rfl⟩) | (intro hg; first | (simp; first | done | fail) | (simp at hg ⊢; exact hg) | (simp at hg; exact hg) | exact hg))); (conv => whnf))
      | ((with_reducible apply And.intro) <;> (intro hb; (try simp at hb); (try (exfalso; first | omega | (simp_all; first | done | fail))); (try (conv => whnf))))
      | (intro hlen; (conv => whnf))
    all_goals have hbi := (by assumption : i < L.length ∧ ¬L[i]?.getD [] = (lang (best l L).2).getD [])
    all_goals rw [h3] at hbi
    all_goals have hw' : ∀ k, k ≤ i → L.getD k [] ≠ l1 := upto_le hw (by rw [List.getD_eq_getElem?_getD]; exact hbi.2)
    · rename_i hb
      exfalso
      have h5 := best_before hT h3 hbi.1 hw'
      rw [List.getD_eq_getElem?_getD] at h5
      exact h5 hb
    · exact .mk (i + 1) ⟨hbi.1, fun k hk => hw' k (by omega)⟩ (by have := hbi.1; show L.length - (i + 1) < L.length - i; omega) (by refine ⟨rfl, rfl, rfl, ?_, ?_, rfl⟩ <;> repeat' (first | exact trivial | exact OLe.refl _ | exact AV.le_refl _ | apply And.intro))
end Go.Proofs
end
section
/- Contracts: the network of a map. -/
namespace Go.Proofs
open Go.Pm
set_option maxRecDepth 100000
set_option maxHeartbeats 4000000

def encPt (p : Int × Int) : D := .agg [.int .i64 p.1, .int .i64 p.2]
/-- The last object with a property that has an Id. -/
def lastBy (p : Obj → Bool) (id : Str) (l : List Obj) : Option Obj := l.foldl (fun r o => if p o && decide (o.id = id) then some o else r) none
def entStep (p : Obj → Bool) (val : Obj → D) (e : Ents) (o : Obj) : Ents := if p o then addM (.str o.id) (val o) e else e
theorem fold_find' (p : Obj → Bool) (val : Obj → D) (id : Str) : ∀ (l : List Obj) (e : Ents) (r : Option Obj), findE (.str id) e.1 = r.map val →
    findE (.str id) (l.foldl (entStep p val) e).1 = (l.foldl (fun r o => if p o && decide (o.id = id) then some o else r) r).map val
  | [], e, r, h => h
  | o :: l, e, r, ih => by
    rw [List.foldl_cons, List.foldl_cons]
    refine fold_find' p val id l _ _ ?_
    unfold entStep
    cases hp : p o with
    | false => simpa using ih
    | true =>
      simp only [if_true, Bool.true_and]
      show findE (.str id) (updE (.str o.id) (val o) e.2 e.1) = _
      rw [findE_upd, ih]
      by_cases h : o.id = id
      · rw [h]; simp
      · have : (id == o.id) = false := by simp [Ne.symm h]
        rw [this, decide_eq_false h]; simp
theorem fold_find (p : Obj → Bool) (val : Obj → D) (id : Str) (l : List Obj) : findE (.str id) (l.foldl (entStep p val) ([], 0)).1 = (lastBy p id l).map val :=
  fold_find' p val id l ([], 0) none rfl
def nodeP (o : Obj) : Bool := decide (o.kind = 1)
def nodeG (m : List Obj) (id : Str) : Option Obj := lastBy nodeP id m
def nodeStep (e : Ents) (o : Obj) : Ents := entStep nodeP (fun o => encPt (o.x, o.y)) e o
def nodesF (m : List Obj) : Ents := m.foldl nodeStep ([], 0)
theorem nodes_find (m : List Obj) (id : Str) : findE (.str id) (nodesF m).1 = cond (nodeG m id).isSome (some (encPt (((nodeG m id).getD default).x, ((nodeG m id).getD default).y))) none := by
  have := fold_find nodeP (fun o => encPt (o.x, o.y)) id m
  unfold nodesF
  rw [show nodeStep = entStep nodeP (fun o => encPt (o.x, o.y)) from rfl, this]
  unfold nodeG
  cases lastBy nodeP id m <;> rfl
def wayP (m : List Obj) (o : Obj) : Bool := decide (o.kind = 2) && o.refs.all fun id => (nodeG m id).isSome
def wayStep (m : List Obj) (e : Ents) (o : Obj) : Ents := entStep (wayP m) (fun o => encStrs o.refs) e o
def waysF (m l : List Obj) : Ents := l.foldl (wayStep m) ([], 0)
def wayG (m l : List Obj) (id : Str) : Option Obj := lastBy (wayP m) id l
theorem ways_find (m l : List Obj) (id : Str) : findE (.str id) (waysF m l).1 = cond (wayG m l id).isSome (some (encStrs ((wayG m l id).getD default).refs)) none := by
  have := fold_find (wayP m) (fun o => encStrs o.refs) id l
  unfold waysF
  rw [show wayStep m = entStep (wayP m) (fun o => encStrs o.refs) from rfl, this]
  unfold wayG
  cases lastBy (wayP m) id l <;> rfl
theorem wayP_no {m : List Obj} {o : Obj} {j : Nat} (hj : j < o.refs.length) (h : nodeG m (o.refs.getD j []) = none) : wayP m o = false := by
  unfold wayP
  rw [Bool.and_eq_false_iff]
  right
  rw [List.all_eq_false]
  exact ⟨o.refs.getD j [], by rw [List.getD_eq_getElem?_getD, List.getElem?_eq_getElem hj]; exact List.getElem_mem hj, by rw [h]; simp⟩
theorem wayP_yes {m : List Obj} {o : Obj} (hk : o.kind = 2) (h : ∀ j, j < o.refs.length → (nodeG m (o.refs.getD j [])).isSome = true) : wayP m o = true := by
  unfold wayP
  rw [decide_eq_true hk, Bool.true_and, List.all_eq_true]
  intro g hg
  obtain ⟨k, hk, rfl⟩ := List.mem_iff_getElem.1 hg
  have := h k hk
  rwa [List.getD_eq_getElem?_getD, List.getElem?_eq_getElem hk] at this
theorem nodesF_step {m : List Obj} {i : Nat} (h : i < m.length) : nodesF (m.take (i + 1)) = nodeStep (nodesF (m.take i)) (m.getD i default) := by
  rw [take_succ_getD m i default h, nodesF, List.foldl_append]; rfl
theorem waysF_step {m0 m : List Obj} {i : Nat} (h : i < m.length) : waysF m0 (m.take (i + 1)) = wayStep m0 (waysF m0 (m.take i)) (m.getD i default) := by
  rw [take_succ_getD m i default h, waysF, List.foldl_append]; rfl
def mapStr (e : Ents) : D := .mapd (.one .str) e.1 e.2
def netD (m : List Obj) : D := .ptr [encObjs m, mapStr (nodesF m), mapStr (waysF m m)]
theorem c46 (m : List Obj) : PCall Try.prog 46 [.d (encMap m)] fun x => x = cond (mapB m) (.tup [.d (netD m), .d (.bool true)]) (.tup [.d .nilp, .d (.bool false)]) := by
  refine PCall.intro Try.tabOk Try.f46 _ Try.func46 rfl (by decide) rfl fun z => ?_
  repeat' first
    | (with_reducible refine AW.seq ?_)
    | ((with_reducible refine AW.region Try.tabOk ?_); (conv => whnf))
    | ((with_reducible refine AW.ret ?_); (conv => whnf))
    | ((with_reducible refine AW.block ?_))
    | ((with_reducible refine AW.skip ?_); (conv => whnf))
    | ((with_reducible refine AW.cond ?_); (conv => whnf))
    | ((with_reducible refine ACall.id ?_); (refine PCall.call (by first | exact c26 _) rfl ?_); (intro x hx; first | subst hx | (obtain ⟨l_, rfl, hl_⟩ := hx.out)); (conv => whnf))
    | ((with_reducible apply And.intro); (focus (first | omega | (exact True.intro) | (simp; omega) | (exact Nat.le_of_ble_eq_true rfl) | (exact ⟨rfl, Nat.le_of_ble_eq_true rfl⟩) | (exact ⟨Nat.le_of_ble_eq_true rfl, Nat.le_of_ble_eq_true rfl⟩) | (intro hg; first | (simp; first | done | fail) | (simp at hg ⊢; exact hg) | (simp at hg; exact hg) | exact hg))); (conv => whnf))
    | ((with_reducible apply And.intro) <;> (intro hb; (try simp at hb); (try (exfalso; first | omega | (simp_all; first | done | fail))); (try (conv => whnf))))
    | (intro hlen; (conv => whnf))
  · rw [hb]; rfl
  refine AW.loopS (X := Nat) [20, 19, 4, 1] [4, 3, 2, 0] (fun i => [(21, .d (.int .i64 (i : Int)))]) (fun i => [(1, .map (.one .str) (nodesF (m.take i)).1 (nodesF (m.take i)).2)]) (fun _ => 5)
    (fun i => i ≤ m.length) (fun i => m.length - i) 0 (Nat.zero_le _) (fun _ _ => rfl) (by refine ⟨rfl, rfl, rfl, ?_, ?_⟩ <;> repeat' (first | exact trivial | exact OLe.refl _ | exact AV.le_refl _ | apply And.intro)) ?_
  intro i hi
  repeat' first
    | (with_reducible refine AW.seq ?_)
    | ((with_reducible refine AW.region Try.tabOk ?_); (conv => whnf))
    | ((with_reducible refine AW.drawI Try.tabOk Try.mixed ?_ ?_); (focus rfl); (conv => whnf))
    | ((with_reducible refine AW.block ?_))
    | ((with_reducible refine AW.exit ?_); (conv => whnf))
    | ((with_reducible refine AW.skip ?_); (conv => whnf))
    | ((with_reducible refine AW.cond ?_); (conv => whnf))
    | (refine ⟨_, ⟨rfl, rfl⟩, ?_⟩; (conv => whnf))
    | ((with_reducible apply Or.inl); (with_reducible apply And.intro); (focus (simp only [rng]; omega)); (conv => whnf))
    | ((with_reducible apply And.intro); (focus (first | omega | (exact True.intro) | (simp; omega) | (exact Nat.le_of_ble_eq_true rfl) | (exact ⟨rfl, Nat.le_of_ble_eq_true rfl⟩) | (exact ⟨Nat.le_of_ble_eq_true rfl, Nat.le_of_ble_eq_true rfl⟩) | (intro hg; first | (simp; first | done | fail) | (simp at hg ⊢; exact hg) | (simp at hg; exact hg) | exact hg))); (conv => whnf))
    | ((with_reducible apply And.intro) <;> (intro hb; (try simp at hb); (try (exfalso; first | omega | (simp_all; first | done | fail))); (try (conv => whnf))))
    | (intro hlen; (conv => whnf))
    | (with_reducible exact True.intro)
    | ((with_reducible refine Two.mk ?_ ?_) <;> (conv => whnf))
  · have hit : i < m.length := by assumption
    have hst := nodesF_step hit
    have hk : (m[i]?.getD default).kind = 1 := by assumption
    rw [← List.getD_eq_getElem?_getD] at hk
    rw [nodeStep, entStep, nodeP, decide_eq_true hk, if_pos rfl] at hst
    exact .mk (i + 1) hit (by show m.length - (i + 1) < m.length - i; omega) ⟨rfl, rfl, rfl, ⟨OLe.of (by rw [hst]; show AObj.map _ _ _ = _; congr 1), OLe.refl _, OLe.refl _, OLe.refl _, OLe.refl _, trivial⟩, ⟨AV.le_refl _, AV.le_refl _, AV.le_refl _, AV.le_refl _, AV.le_refl _, trivial⟩, rfl⟩
  · have hit : i < m.length := by assumption
    have hst := nodesF_step hit
    have hk : ¬(m[i]?.getD default).kind = 1 := by assumption
    rw [← List.getD_eq_getElem?_getD] at hk
    rw [nodeStep, entStep, nodeP, decide_eq_false hk, if_neg (by simp)] at hst
    exact .mk (i + 1) hit (by show m.length - (i + 1) < m.length - i; omega) ⟨rfl, rfl, rfl, ⟨OLe.of (by show AObj.map (.one .str) (nodesF (m.take i)).1 (nodesF (m.take i)).2 = AObj.map (.one .str) (nodesF (m.take (i + 1))).1 (nodesF (m.take (i + 1))).2; rw [hst]), OLe.refl _, OLe.refl _, OLe.refl _, OLe.refl _, trivial⟩, ⟨AV.le_refl _, AV.le_refl _, AV.le_refl _, AV.le_refl _, AV.le_refl _, trivial⟩, rfl⟩
  have he : i = m.length := by omega
  subst he
  rw [List.take_length]
  refine AW.loopS (X := Nat) [39, 38, 4, 1] [4, 3, 1, 0] (fun i => [(40, .d (.int .i64 (i : Int)))]) (fun i => [(2, .map (.one .str) (waysF m (m.take i)).1 (waysF m (m.take i)).2)]) (fun _ => 5)
    (fun i => i ≤ m.length) (fun i => m.length - i) 0 (Nat.zero_le _) (fun _ _ => rfl) (by refine ⟨rfl, rfl, rfl, ?_, ?_⟩ <;> repeat' (first | exact trivial | exact OLe.refl _ | exact AV.le_refl _ | apply And.intro)) ?_
  intro i hi
  repeat' first
    | (with_reducible refine AW.seq ?_)
    | ((with_reducible refine AW.region Try.tabOk ?_); (conv => whnf))
    | ((with_reducible refine AW.ret ?_); (conv => whnf))
    | ((with_reducible refine AW.block ?_))
    | ((with_reducible refine AW.exit ?_); (conv => whnf))
    | ((with_reducible refine AW.skip ?_); (conv => whnf))
    | ((with_reducible refine AW.cond ?_); (conv => whnf))
    | ((with_reducible refine ACall.id ?_); (refine ACall.intro Try.tabOk Try.f81 _ Try.func81 rfl (by decide) rfl ?_); intro z_)
    | ((with_reducible refine ACall.id ?_); (refine ACall.intro Try.tabOk Try.f105 _ Try.func105 rfl (by decide) rfl ?_); intro z_)
    | ((with_reducible apply Or.inl); apply Exists.intro; apply And.intro; (focus (intro hg; (conv => whnf); (repeat' first | (with_reducible exact ⟨rfl, rfl⟩) | ((with_reducible refine Own2.data ?_); (conv => whnf)) | (refine ⟨true, _, rfl, ?_⟩; (conv => whnf)) | (refine ⟨false, .nilp, rfl, ?_⟩; (conv => whnf)) | (refine ⟨_, _, by first | exact c26 _, ?_⟩; (conv => whnf)) | ((with_reducible apply Or.inl); (refine ⟨rfl, rfl, ?_⟩); (conv => whnf)) | ((with_reducible apply Or.inl); (with_reducible apply And.intro); (focus (simp only [rng]; omega)); (conv => whnf)) | (refine ⟨by first | omega | (simp at hg ⊢; omega) | (simp_all; first | done | fail), ?_⟩; (conv => whnf)) | ((with_reducible refine ACall.id ?_); (refine PCall.call (by first | exact c26 _) rfl ?_); (intro x hx; first | subst hx | (obtain ⟨l_, rfl, hl_⟩ := hx.out)); (conv => whnf)) | ((with_reducible apply Or.inr); (with_reducible apply And.intro) <;> (intro hb_; first | (cases hb_; done) | (conv => whnf))) | (intro hlen; (conv => whnf))); done)); (conv => whnf))
    | ((with_reducible apply Or.inl); (with_reducible apply And.intro); (focus (simp only [rng]; omega)); (conv => whnf))
    | ((with_reducible apply Or.inr); (with_reducible apply And.intro) <;> (intro hb; (try simp at hb); (try (exfalso; first | omega | (simp_all; first | done | fail))); (try (conv => whnf))))
    | ((with_reducible apply And.intro); (focus (first | omega | (exact True.intro) | (simp; omega) | (exact Nat.le_of_ble_eq_true rfl) | (exact ⟨rfl, Nat.le_of_ble_eq_true rfl⟩) | (exact ⟨Nat.le_of_ble_eq_true rfl, Nat.le_of_ble_eq_true rfl⟩) | (intro hg; first | (simp; first | done | fail) | (simp at hg ⊢; exact hg) | (simp at hg; exact hg) | exact hg))); (conv => whnf))
    | ((with_reducible apply And.intro) <;> (intro hb; (try simp at hb); (try (exfalso; first | omega | (simp_all; first | done | fail))); (try (conv => whnf))))
    | (intro hlen; (conv => whnf))
  · have hkd : (m[i]?.getD default).kind = 2 := by assumption
    rw [← List.getD_eq_getElem?_getD] at hkd
    refine AW.loopS (X := Nat) [7, 6, 0, 1] [5, 2, 4, 3, 1, 0] (fun j => [(8, .d (.int .i64 (j : Int)))]) (fun _ => []) (fun _ => 6)
      (fun j => j ≤ (m.getD i default).refs.length ∧ ∀ k, k < j → (nodeG m ((m.getD i default).refs.getD k [])).isSome = true) (fun j => (m.getD i default).refs.length - j) 0 ⟨Nat.zero_le _, fun k h => absurd h (Nat.not_lt_zero k)⟩ (fun _ _ => rfl) (by refine ⟨rfl, rfl, rfl, ?_, ?_⟩ <;> repeat' (first | exact trivial | exact OLe.refl _ | exact AV.le_refl _ | apply And.intro)) ?_
    intro j ⟨hj, hw⟩
    have hl2 : (m[i]?.getD default).refs.length ≤ 9223372036854775807 := by rw [← List.getD_eq_getElem?_getD]; exact hlen
    repeat' first
      | (with_reducible refine AW.seq ?_)
      | ((with_reducible refine AW.region Try.tabOk ?_); (conv => whnf))
      | ((with_reducible refine AW.drawI Try.tabOk Try.mixed ?_ ?_); (focus rfl); (conv => whnf))
      | ((with_reducible refine AW.ret ?_); (conv => whnf))
      | ((with_reducible refine AW.block ?_))
      | ((with_reducible refine AW.exit ?_); (conv => whnf))
      | ((with_reducible refine AW.skip ?_); (conv => whnf))
      | ((with_reducible refine AW.cond ?_); (conv => whnf))
      | ((with_reducible refine ACall.id ?_); (refine ACall.intro Try.tabOk Try.f82 _ Try.func82 rfl (by decide) rfl ?_); intro z_)
      | (refine ⟨_, _, by first | exact nodes_find _ _, ?_⟩; (conv => whnf))
      | (refine ⟨_, ⟨rfl, rfl⟩, ?_⟩; (conv => whnf))
      | ((with_reducible apply Or.inl); (with_reducible apply And.intro); (focus (simp only [rng]; omega)); (conv => whnf))
      | ((with_reducible apply Or.inr); (with_reducible apply And.intro) <;> (intro hb; (try simp at hb); (try (exfalso; first | omega | (simp_all; first | done | fail))); (try (conv => whnf))))
      | ((with_reducible apply And.intro); (focus (first | omega | (exact True.intro) | (simp; omega) | (exact Nat.le_of_ble_eq_true rfl) | (exact ⟨rfl, Nat.le_of_ble_eq_true rfl⟩) | (exact ⟨Nat.le_of_ble_eq_true rfl, Nat.le_of_ble_eq_true rfl⟩) | (intro hg; first | (simp; first | done | fail) | (simp at hg ⊢; exact hg) | (simp at hg; exact hg) | exact hg))); (conv => whnf))
      | ((with_reducible apply And.intro) <;> (intro hb; (try simp at hb); (try (exfalso; first | omega | (simp_all; first | done | fail))); (try (conv => whnf))))
      | (with_reducible exact True.intro)
      | ((with_reducible refine Two.mk ?_ ?_) <;> (conv => whnf))
    all_goals have hit : i < m.length := by assumption
    all_goals have hst := waysF_step (m0 := m) hit
    · exact .mk (j + 1) ⟨by rw [List.getD_eq_getElem?_getD]; assumption, fun k hk => by
        by_cases e : k = j
        · subst e; rw [List.getD_eq_getElem?_getD, List.getD_eq_getElem?_getD]; assumption
        · exact hw k (by omega)⟩ (by have : j < (m[i]?.getD default).refs.length := by assumption
                                     rw [← List.getD_eq_getElem?_getD] at this
                                     show (m.getD i default).refs.length - (j + 1) < (m.getD i default).refs.length - j; omega) (by refine ⟨rfl, rfl, rfl, ?_, ?_, rfl⟩ <;> repeat' (first | exact trivial | exact OLe.refl _ | exact AV.le_refl _ | apply And.intro))
    · have hj : j < (m[i]?.getD default).refs.length := by assumption
      have hn : nodeG m ((m[i]?.getD default).refs[j]?.getD []) = none := by assumption
      rw [← List.getD_eq_getElem?_getD] at hj hn
      rw [← List.getD_eq_getElem?_getD] at hn
      rw [wayStep, entStep, wayP_no hj hn, if_neg (by simp)] at hst
      exact .mk (i + 1) hit (by show m.length - (i + 1) < m.length - i; omega) ⟨rfl, rfl, rfl, ⟨OLe.of (by show AObj.map _ _ _ = AObj.map (.one .str) (waysF m (m.take (i + 1))).1 (waysF m (m.take (i + 1))).2; rw [hst]), OLe.refl _, OLe.refl _, OLe.refl _, OLe.refl _, trivial⟩, ⟨AV.le_refl _, AV.le_refl _, AV.le_refl _, AV.le_refl _, AV.le_refl _, trivial⟩, rfl⟩
    · have hj : (m[i]?.getD default).refs.length ≤ j := by assumption
      rw [← List.getD_eq_getElem?_getD] at hj
      rw [wayStep, entStep, wayP_yes hkd (fun k hk => hw k (by omega)), if_pos rfl] at hst
      exact .mk (i + 1) hit (by show m.length - (i + 1) < m.length - i; omega) ⟨rfl, rfl, rfl, ⟨OLe.of (by show AObj.map _ _ _ = AObj.map (.one .str) (waysF m (m.take (i + 1))).1 (waysF m (m.take (i + 1))).2; rw [hst]; rfl), OLe.refl _, OLe.refl _, OLe.refl _, OLe.refl _, trivial⟩, ⟨AV.le_refl _, AV.le_refl _, AV.le_refl _, AV.le_refl _, AV.le_refl _, trivial⟩, rfl⟩
  · have hit : i < m.length := by assumption
    have hst := waysF_step (m0 := m) hit
    have hkd : ¬(m[i]?.getD default).kind = 2 := by assumption
    rw [← List.getD_eq_getElem?_getD] at hkd
    rw [wayStep, entStep, show wayP m (m.getD i default) = false by unfold wayP; rw [decide_eq_false hkd]; rfl, if_neg (by simp)] at hst
    exact .mk (i + 1) hit (by show m.length - (i + 1) < m.length - i; omega) ⟨rfl, rfl, rfl, ⟨OLe.of (by show AObj.map _ _ _ = AObj.map (.one .str) (waysF m (m.take (i + 1))).1 (waysF m (m.take (i + 1))).2; rw [hst]), OLe.refl _, OLe.refl _, OLe.refl _, OLe.refl _, trivial⟩, ⟨AV.le_refl _, AV.le_refl _, AV.le_refl _, AV.le_refl _, AV.le_refl _, trivial⟩, rfl⟩
  · have he : i = m.length := by omega
    subst he
    have hm : mapB m = true := by assumption
    rw [List.take_length, hm]; rfl
end Go.Proofs
end
section
/- Contracts: sound, meets, connected. -/
namespace Go.Proofs
open Go.Pm
set_option maxRecDepth 100000
set_option maxHeartbeats 4000000

theorem lastBy_some {p : Obj → Bool} {id : Str} {o : Obj} : ∀ {l : List Obj}, lastBy p id l = some o → o ∈ l ∧ p o = true ∧ o.id = id := by
  have key : ∀ (l : List Obj) (r : Option Obj), l.foldl (fun r o => if p o && decide (o.id = id) then some o else r) r = some o → r = some o ∨ (o ∈ l ∧ p o = true ∧ o.id = id) := by
    intro l
    induction l with
    | nil => intro r h; exact .inl h
    | cons x l ih =>
      intro r h
      rw [List.foldl_cons] at h
      rcases ih _ h with h | ⟨h1, h2⟩
      · by_cases hx : (p x && decide (x.id = id)) = true
        · rw [if_pos hx] at h
          obtain rfl := Option.some.inj h
          simp only [Bool.and_eq_true, decide_eq_true_eq] at hx
          exact .inr ⟨by simp, hx⟩
        · rw [if_neg hx] at h; exact .inl h
      · exact .inr ⟨by simp [h1], h2⟩
  intro l h
  rcases key l none h with h | h
  · cases h
  · exact h
theorem way_len {m : List Obj} (hm : mapB m = true) {id : Str} (h : (wayG m m id).isSome = true) : 2 ≤ ((wayG m m id).getD default).refs.length ∧ ((wayG m m id).getD default).refs.length ≤ 2000 := by
  cases hw : wayG m m id with
  | none => rw [hw] at h; cases h
  | some o =>
    obtain ⟨h1, h2, _⟩ := lastBy_some hw
    simp only [mapB, Bool.and_eq_true, List.all_eq_true] at hm
    have ho := hm.1.1 o h1
    simp only [wayP, Bool.and_eq_true, decide_eq_true_eq] at h2
    simp only [objB, Bool.and_eq_true] at ho
    have := ho.1.1.2
    rw [h2.1] at this
    simp [countB] at this
    show 2 ≤ o.refs.length ∧ o.refs.length ≤ 2000
    omega
def soundAt (m : List Obj) (o : Obj) (i : Nat) : Bool := if o.kind = 5 ∧ i = 1 then (nodeG m (o.refs.getD i [])).isSome else (wayG m m (o.refs.getD i [])).isSome
def soundN (m : List Obj) (o : Obj) : Bool := (List.range o.refs.length).all (soundAt m o)
theorem soundN_no {m : List Obj} {o : Obj} {i : Nat} (hi : i < o.refs.length) (h : soundAt m o i = false) : soundN m o = false := by
  unfold soundN
  rw [List.all_eq_false]
  exact ⟨i, List.mem_range.2 hi, by rw [h]; simp⟩
theorem soundN_yes {m : List Obj} {o : Obj} (h : ∀ i, i < o.refs.length → soundAt m o i = true) : soundN m o = true := by
  unfold soundN
  rw [List.all_eq_true]
  exact fun i hi => h i (List.mem_range.1 hi)
theorem upto_lt {p : Nat → Prop} {i : Nat} (hw : ∀ k, k < i → p k) (hi : p i) : ∀ k, k < i + 1 → p k := fun k hk => by
  by_cases e : k = i
  · subst e; exact hi
  · exact hw k (by omega)
theorem c47 (m : List Obj) (o : Obj) (hm : mapB m = true) : PCall Try.prog 47 [.d (netD m), .d (encObj o)] fun x => x = .d (.bool (soundN m o)) := by
  refine PCall.intro Try.tabOk Try.f47 _ Try.func47 rfl (by decide) rfl fun z => ?_
  repeat' first
    | (with_reducible refine AW.seq ?_)
    | ((with_reducible refine AW.region Try.tabOk ?_); (conv => whnf))
    | ((with_reducible refine AW.block ?_))
    | (intro hlen; (conv => whnf))
  have hwl := fun id => way_len hm (id := id)
  refine AW.loopS (X := Nat) [11, 10, 3, 0] [0] (fun j => [(12, .d (.int .i64 (j : Int)))]) (fun _ => []) (fun _ => 1)
    (fun j => j ≤ o.refs.length ∧ ∀ k, k < j → soundAt m o k = true) (fun j => o.refs.length - j) 0 ⟨Nat.zero_le _, fun k h => absurd h (Nat.not_lt_zero k)⟩ (fun _ _ => rfl) (by refine ⟨rfl, rfl, rfl, ?_, ?_⟩ <;> repeat' (first | exact trivial | exact OLe.refl _ | exact AV.le_refl _ | apply And.intro)) ?_
  intro i ⟨hi, hw⟩
  repeat' first
    | (with_reducible refine AW.seq ?_)
    | ((with_reducible refine AW.region Try.tabOk ?_); (conv => whnf))
    | ((with_reducible refine AW.ret ?_); (conv => whnf))
    | ((with_reducible refine AW.block ?_))
    | ((with_reducible refine AW.exit ?_); (conv => whnf))
    | ((with_reducible refine AW.skip ?_); (conv => whnf))
    | ((with_reducible refine AW.cond ?_); (conv => whnf))
    | (refine ⟨_, _, by first | exact nodes_find _ _ | exact ways_find _ _ _, ?_⟩; (conv => whnf))
    | ((with_reducible apply Or.inl); apply Exists.intro; apply And.intro; (focus (intro hg; (conv => whnf); (repeat' first | (with_reducible exact ⟨rfl, rfl⟩) | ((with_reducible refine Own2.data ?_); (conv => whnf)) | (refine ⟨true, _, rfl, ?_⟩; (conv => whnf)) | (refine ⟨false, .nilp, rfl, ?_⟩; (conv => whnf)) | (refine ⟨_, _, by first | exact nodes_find _ _ | exact ways_find _ _ _, ?_⟩; (conv => whnf)) | ((with_reducible apply Or.inl); (refine ⟨rfl, rfl, ?_⟩); (conv => whnf)) | ((with_reducible apply Or.inl); (with_reducible apply And.intro); (focus (simp only [rng]; omega)); (conv => whnf)) | (refine ⟨by first | omega | (simp at hg ⊢; omega) | (simp_all; first | done | fail), ?_⟩; (conv => whnf)) | ((with_reducible refine ACall.id ?_); (refine PCall.call (by first | exact nodes_find _ _ | exact ways_find _ _ _) rfl ?_); (intro x hx; first | subst hx | (obtain ⟨l_, rfl, hl_⟩ := hx.out)); (conv => whnf)) | ((with_reducible apply Or.inr); (with_reducible apply And.intro) <;> (intro hb_; first | (cases hb_; done) | (conv => whnf))) | (intro hlen; (conv => whnf))); done)); (conv => whnf))
    | ((with_reducible apply Or.inl); (with_reducible apply And.intro); (focus (simp only [rng]; omega)); (conv => whnf))
    | ((with_reducible apply Or.inr); (with_reducible apply And.intro) <;> (intro hb; (try simp at hb); (try (exfalso; first | omega | (simp_all; first | done | fail))); (try (conv => whnf))))
    | ((with_reducible apply And.intro); (focus (first | omega | (exact True.intro) | (simp; omega) | (exact Nat.le_of_ble_eq_true rfl) | (exact ⟨rfl, Nat.le_of_ble_eq_true rfl⟩) | (exact ⟨Nat.le_of_ble_eq_true rfl, Nat.le_of_ble_eq_true rfl⟩) | (intro hg; first | (simp; first | done | fail) | (simp at hg ⊢; exact hg) | (simp at hg; exact hg) | exact hg))); (conv => whnf))
    | ((with_reducible apply And.intro) <;> (intro hb; (try simp at hb); (try (exfalso; first | omega | (simp_all; first | done | fail))); (try (conv => whnf))))
    | ((with_reducible refine And.intro (Side.out ?_) ?_); rotate_left; (conv => whnf); rotate_right)
  · have hn : (nodeG m (o.refs[i]?.getD [])).isSome = true := by assumption
    have hk : o.kind = 5 ∧ (i : Int) = 1 := by assumption
    rw [← List.getD_eq_getElem?_getD] at hn
    exact .mk (i + 1) ⟨by assumption, upto_lt hw (by unfold soundAt; rw [if_pos ⟨hk.1, by omega⟩]; exact hn)⟩ (by show o.refs.length - (i + 1) < o.refs.length - i; omega) (by refine ⟨rfl, rfl, rfl, ?_, ?_, rfl⟩ <;> repeat' (first | exact trivial | exact OLe.refl _ | exact AV.le_refl _ | apply And.intro))
  · have hn : nodeG m (o.refs[i]?.getD []) = none := by assumption
    have hk : o.kind = 5 ∧ (i : Int) = 1 := by assumption
    rw [← List.getD_eq_getElem?_getD] at hn
    rw [soundN_no (i := i) (by assumption) (by unfold soundAt; rw [if_pos ⟨hk.1, by omega⟩, hn]; rfl)]
  · have hn : (wayG m m (o.refs[i]?.getD [])).isSome = true := by assumption
    rw [← List.getD_eq_getElem?_getD] at hn
    exact ⟨Nat.lt_of_lt_of_le (by decide) (hwl _ hn).1⟩
  · have hn : (wayG m m (o.refs[i]?.getD [])).isSome = true := by assumption
    have hk : o.kind = 5 → ¬(i : Int) = 1 := by assumption
    rw [← List.getD_eq_getElem?_getD] at hn
    exact .mk (i + 1) ⟨by assumption, upto_lt hw (by unfold soundAt; rw [if_neg (fun e => hk e.1 (by omega))]; exact hn)⟩ (by show o.refs.length - (i + 1) < o.refs.length - i; omega) (by refine ⟨rfl, rfl, rfl, ?_, ?_, rfl⟩ <;> repeat' (first | exact trivial | exact OLe.refl _ | exact AV.le_refl _ | apply And.intro))
  · have hn : wayG m m (o.refs[i]?.getD []) = none := by assumption
    have hk : o.kind = 5 → ¬(i : Int) = 1 := by assumption
    rw [← List.getD_eq_getElem?_getD] at hn
    rw [soundN_no (i := i) (by assumption) (by unfold soundAt; rw [if_neg (fun e => hk e.1 (by omega)), hn]; rfl)]
  · rw [soundN_yes fun k hk => hw k (by omega)]
def wayR (m : List Obj) (id : Str) : List Str := ((wayG m m id).getD default).refs
theorem ways_yes {m : List Obj} {id : Str} (h : (wayG m m id).isSome = true) : findE (.str id) (waysF m m).1 = cond true (some (encStrs (wayR m id))) none := by
  rw [ways_find, h]; rfl
def meetsN (m : List Obj) (o : Obj) : Bool := (wayR m (o.refs.getD 0 [])).contains (o.refs.getD 1 []) && (wayR m (o.refs.getD 2 [])).contains (o.refs.getD 1 [])
theorem c49 (m : List Obj) (o : Obj) (h3 : o.refs.length = 3) (h0 : (wayG m m (o.refs.getD 0 [])).isSome = true) (h2 : (wayG m m (o.refs.getD 2 [])).isSome = true) : PCall Try.prog 49 [.d (netD m), .d (encObj o)] fun x => x = .d (.bool (meetsN m o)) := by
  refine PCall.intro Try.tabOk Try.f49 _ Try.func49 rfl (by decide) rfl fun z => ?_
  repeat' first
    | (with_reducible refine AW.seq ?_)
    | ((with_reducible refine AW.region Try.tabOk ?_); (conv => whnf))
    | ((with_reducible refine AW.draw Try.tabOk Try.mixed ?_ ?_); (focus rfl); (conv => whnf))
    | ((with_reducible refine AW.ret ?_); (conv => whnf))
    | (refine ⟨_, ⟨rfl, rfl⟩, ?_⟩; (conv => whnf))
    | (apply Exists.intro; apply And.intro; (focus (first | (intro hg; (conv => whnf)) | (conv => whnf)); (repeat' first | (with_reducible exact ⟨rfl, rfl⟩) | ((with_reducible refine Own2.data ?_); (conv => whnf)) | (refine ⟨true, _, rfl, ?_⟩; (conv => whnf)) | (refine ⟨false, .nilp, rfl, ?_⟩; (conv => whnf)) | (refine ⟨_, _, by first | exact ways_yes h0 | exact ways_yes h2 | exact c57' _ _, ?_⟩; (conv => whnf)) | ((with_reducible apply Or.inl); (refine ⟨rfl, rfl, ?_⟩); (conv => whnf)) | ((with_reducible apply Or.inl); (with_reducible apply And.intro); (focus (simp only [rng]; omega)); (conv => whnf)) | (refine ⟨by first | omega | (simp at hg ⊢; omega) | (simp_all; first | done | fail), ?_⟩; (conv => whnf)) | ((with_reducible refine ACall.id ?_); (refine PCall.call (by first | exact ways_yes h0 | exact ways_yes h2 | exact c57' _ _) rfl ?_); (intro x hx; first | subst hx | (obtain ⟨l_, rfl, hl_⟩ := hx.out)); (conv => whnf)) | ((with_reducible apply Or.inr); (with_reducible apply And.intro) <;> (intro hb_; first | (cases hb_; done) | (conv => whnf))) | (intro hlen; (conv => whnf))); done); (conv => whnf))
  · unfold meetsN; rw [bif_and]; rfl
def reachC (s : (Str × Str) × (Bool × Bool)) (node : Str) : Bool := (s.2.1 && s.1.1 == node) || (s.2.2 && s.1.2 == node)
def connStep (m : List Obj) (s : (Str × Str) × (Bool × Bool)) (i : Nat) (id : Str) : (Str × Str) × (Bool × Bool) :=
  if i = 0 then (((wayR m id).getD 0 [], (wayR m id).getD ((wayR m id).length - 1) []), s.2)
  else (((wayR m id).getD 0 [], (wayR m id).getD ((wayR m id).length - 1) []), (reachC s ((wayR m id).getD ((wayR m id).length - 1) []), reachC s ((wayR m id).getD 0 [])))
def connF (m : List Obj) (L : List Str) : Nat → (Str × Str) × (Bool × Bool)
  | 0 => (([], []), (true, true))
  | i + 1 => connStep m (connF m L i) i (L.getD i [])
def connN (m : List Obj) (o : Obj) : Bool := (connF m o.refs o.refs.length).2.1 || (connF m o.refs o.refs.length).2.2
theorem beq10 : Nat.beq 1 0 = false := rfl
theorem c48 (m : List Obj) (o : Obj) (hm : mapB m = true) (hw : ∀ i, i < o.refs.length → (wayG m m (o.refs.getD i [])).isSome = true) : PCall Try.prog 48 [.d (netD m), .d (encObj o)] fun x => x = .d (.bool (connN m o)) := by
  refine PCall.intro Try.tabOk Try.f48 _ Try.func48 rfl (by decide) rfl fun z => ?_
  repeat' first
    | (with_reducible refine AW.seq ?_)
    | ((with_reducible refine AW.region Try.tabOk ?_); (conv => whnf))
    | ((with_reducible refine AW.block ?_))
    | ((with_reducible apply And.intro); (focus (first | omega | (exact True.intro) | (simp; omega) | (exact Nat.le_of_ble_eq_true rfl) | (exact ⟨rfl, Nat.le_of_ble_eq_true rfl⟩) | (exact ⟨Nat.le_of_ble_eq_true rfl, Nat.le_of_ble_eq_true rfl⟩) | (intro hg; first | (simp; first | done | fail) | (simp at hg ⊢; exact hg) | (simp at hg; exact hg) | exact hg))); (conv => whnf))
    | (intro hlen; (conv => whnf))
  have hwl := fun i hi => way_len hm (hw i hi)
  refine AW.loopS (X := Nat) [16, 15, 6, 5, 0] [0] (fun j => [(17, .d (.int .i64 (j : Int)))]) (fun j => [(2, .dvar 2 (fun k => .bool (bif Nat.beq k 0 then (connF m o.refs j).2.1 else (connF m o.refs j).2.2)) 115), (1, .dvar 2 (fun k => .str (bif Nat.beq k 0 then (connF m o.refs j).1.1 else (connF m o.refs j).1.2)) 114)]) (fun _ => 3)
    (fun j => j ≤ o.refs.length) (fun j => o.refs.length - j) 0 (Nat.zero_le _) (fun _ _ => rfl) ⟨rfl, rfl, rfl, ⟨OLe.dvar (fun j hj => by match j, hj with | 0, _ => rfl | 1, _ => rfl), OLe.dvar (fun j hj => by match j, hj with | 0, _ => rfl | 1, _ => rfl), OLe.refl _, trivial⟩, ⟨AV.le_refl _, AV.le_refl _, AV.le_refl _, AV.le_refl _, AV.le_refl _, AV.le_refl _, trivial⟩⟩ ?_
  intro i hi
  have hA : i < o.refs.length → 2 ≤ (wayR m (o.refs.getD (i : Int).toNat [])).length ∧ (wayR m (o.refs.getD (i : Int).toNat [])).length ≤ 2000 := fun h => hwl i h
  repeat' first
    | (with_reducible refine AW.seq ?_)
    | ((with_reducible refine AW.region Try.tabOk ?_); (conv => whnf))
    | ((with_reducible refine AW.draw Try.tabOk Try.mixed ?_ ?_); (focus rfl); (conv => whnf))
    | ((with_reducible refine AW.ret ?_); (conv => whnf))
    | ((with_reducible refine AW.block ?_))
    | ((with_reducible refine AW.exit ?_); (conv => whnf))
    | ((with_reducible refine AW.skip ?_); (conv => whnf))
    | ((with_reducible refine AW.cond ?_); (conv => whnf))
    | ((with_reducible refine ACall.id ?_); (refine ACall.intro Try.tabOk Try.f83 _ Try.func83 rfl (by decide) rfl ?_); intro z_)
    | (refine ⟨_, _, by first | exact ways_yes (hw _ (by assumption)), ?_⟩; (conv => whnf))
    | (refine ⟨_, ⟨rfl, rfl⟩, ?_⟩; (conv => whnf))
    | ((with_reducible apply Or.inl); apply Exists.intro; apply And.intro; (focus (intro hg; (conv => whnf); (repeat' first | (with_reducible exact ⟨rfl, rfl⟩) | ((with_reducible refine Own2.data ?_); (conv => whnf)) | (refine ⟨true, _, rfl, ?_⟩; (conv => whnf)) | (refine ⟨false, .nilp, rfl, ?_⟩; (conv => whnf)) | (refine ⟨_, _, by first | exact ways_yes (hw _ (by assumption)), ?_⟩; (conv => whnf)) | ((with_reducible apply Or.inl); (refine ⟨rfl, rfl, ?_⟩); (conv => whnf)) | ((with_reducible apply Or.inl); (with_reducible apply And.intro); (focus (simp only [rng]; omega)); (conv => whnf)) | (refine ⟨by first | omega | (simp at hg ⊢; omega) | (simp_all; first | done | fail), ?_⟩; (conv => whnf)) | ((with_reducible refine ACall.id ?_); (refine PCall.call (by first | exact ways_yes (hw _ (by assumption))) rfl ?_); (intro x hx; first | subst hx | (obtain ⟨l_, rfl, hl_⟩ := hx.out)); (conv => whnf)) | ((with_reducible apply Or.inr); (with_reducible apply And.intro) <;> (intro hb_; first | (cases hb_; done) | (conv => whnf))) | (intro hlen; (conv => whnf))); done)); (conv => whnf))
    | (apply Exists.intro; apply And.intro; (focus (first | (intro hg; (conv => whnf)) | (conv => whnf)); (repeat' first | (with_reducible exact ⟨rfl, rfl⟩) | ((with_reducible refine Own2.data ?_); (conv => whnf)) | (refine ⟨true, _, rfl, ?_⟩; (conv => whnf)) | (refine ⟨false, .nilp, rfl, ?_⟩; (conv => whnf)) | (refine ⟨_, _, by first | exact ways_yes (hw _ (by assumption)), ?_⟩; (conv => whnf)) | ((with_reducible apply Or.inl); (refine ⟨rfl, rfl, ?_⟩); (conv => whnf)) | ((with_reducible apply Or.inl); (with_reducible apply And.intro); (focus (simp only [rng]; omega)); (conv => whnf)) | (refine ⟨by first | omega | (simp at hg ⊢; omega) | (simp_all; first | done | fail), ?_⟩; (conv => whnf)) | ((with_reducible refine ACall.id ?_); (refine PCall.call (by first | exact ways_yes (hw _ (by assumption))) rfl ?_); (intro x hx; first | subst hx | (obtain ⟨l_, rfl, hl_⟩ := hx.out)); (conv => whnf)) | ((with_reducible apply Or.inr); (with_reducible apply And.intro) <;> (intro hb_; first | (cases hb_; done) | (conv => whnf))) | (intro hlen; (conv => whnf))); done); (conv => whnf))
    | ((with_reducible apply Or.inl); (with_reducible apply And.intro); (focus (simp only [rng]; omega)); (conv => whnf))
    | ((with_reducible apply Or.inr); (with_reducible apply And.intro) <;> (intro hb; (try simp at hb); (try (exfalso; first | omega | (simp_all; first | done | fail))); (try (conv => whnf))))
    | ((with_reducible apply And.intro); (focus (first | omega | (exact True.intro) | (simp; omega) | (exact Nat.le_of_ble_eq_true rfl) | (exact ⟨rfl, Nat.le_of_ble_eq_true rfl⟩) | (exact ⟨Nat.le_of_ble_eq_true rfl, Nat.le_of_ble_eq_true rfl⟩) | (intro hg; first | (simp; first | done | fail) | (simp at hg ⊢; exact hg) | (simp at hg; exact hg) | exact hg))); (conv => whnf))
    | ((with_reducible apply And.intro) <;> (intro hb; (try simp at hb); (try (exfalso; first | omega | (simp_all; first | done | fail))); (try (conv => whnf))))
    | ((with_reducible refine And.intro (Side.out ?_) ?_); rotate_left; (conv => whnf); rotate_right)
  · have h0 : i = 0 := by assumption
    subst h0
    exact .mk 1 (by omega) (by show o.refs.length - 1 < o.refs.length - 0; omega) ⟨rfl, rfl, rfl, ⟨OLe.refl _, OLe.dvar (fun j hj => by match j, hj with | 0, _ => rfl | 1, _ => (show D.str _ = D.str _; congr 1; simp [connF, connStep, beq10])), OLe.refl _, trivial⟩, ⟨AV.le_refl _, AV.le_refl _, AV.le_refl _, AV.le_refl _, AV.le_refl _, AV.le_refl _, trivial⟩, rfl⟩
  · refine ⟨fun h => ?_⟩
    simp at h ⊢
    grind
  · refine ⟨fun h => ?_⟩
    simp at h ⊢
    grind
  · skip
    have h0 : ¬i = 0 := by assumption
    exact .mk (i + 1) (by assumption) (by show o.refs.length - (i + 1) < o.refs.length - i; omega) ⟨rfl, rfl, rfl, ⟨OLe.dvar (fun j hj => by match j, hj with | 0, _ => (show D.bool _ = D.bool _; congr 1; simp [connF, connStep, reachC, h0, beq10] <;> grind) | 1, _ => (show D.bool _ = D.bool _; congr 1; simp [connF, connStep, reachC, h0, beq10] <;> grind)), OLe.dvar (fun j hj => by match j, hj with | 0, _ => (show D.str _ = D.str _; congr 1; simp [connF, connStep, h0]) | 1, _ => (show D.str _ = D.str _; congr 1; simp [connF, connStep, h0, beq10])), OLe.refl _, trivial⟩, ⟨AV.le_refl _, AV.le_refl _, AV.le_refl _, AV.le_refl _, AV.le_refl _, AV.le_refl _, trivial⟩, rfl⟩
  · skip
    have h0 : ¬i = 0 := by assumption
    exact .mk (i + 1) (by assumption) (by show o.refs.length - (i + 1) < o.refs.length - i; omega) ⟨rfl, rfl, rfl, ⟨OLe.dvar (fun j hj => by match j, hj with | 0, _ => (show D.bool _ = D.bool _; congr 1; simp [connF, connStep, reachC, h0, beq10] <;> grind) | 1, _ => (show D.bool _ = D.bool _; congr 1; simp [connF, connStep, reachC, h0, beq10] <;> grind)), OLe.dvar (fun j hj => by match j, hj with | 0, _ => (show D.str _ = D.str _; congr 1; simp [connF, connStep, h0]) | 1, _ => (show D.str _ = D.str _; congr 1; simp [connF, connStep, h0, beq10])), OLe.refl _, trivial⟩, ⟨AV.le_refl _, AV.le_refl _, AV.le_refl _, AV.le_refl _, AV.le_refl _, AV.le_refl _, trivial⟩, rfl⟩
  · skip
    have h0 : ¬i = 0 := by assumption
    exact .mk (i + 1) (by assumption) (by show o.refs.length - (i + 1) < o.refs.length - i; omega) ⟨rfl, rfl, rfl, ⟨OLe.dvar (fun j hj => by match j, hj with | 0, _ => (show D.bool _ = D.bool _; congr 1; simp [connF, connStep, reachC, h0, beq10] <;> grind) | 1, _ => (show D.bool _ = D.bool _; congr 1; simp [connF, connStep, reachC, h0, beq10] <;> grind)), OLe.dvar (fun j hj => by match j, hj with | 0, _ => (show D.str _ = D.str _; congr 1; simp [connF, connStep, h0]) | 1, _ => (show D.str _ = D.str _; congr 1; simp [connF, connStep, h0, beq10])), OLe.refl _, trivial⟩, ⟨AV.le_refl _, AV.le_refl _, AV.le_refl _, AV.le_refl _, AV.le_refl _, AV.le_refl _, trivial⟩, rfl⟩
  · have he : i = o.refs.length := by omega
    subst he
    unfold connN
    congr 2
end Go.Proofs
end
section
/- Contracts: what is wrong with a network. -/
namespace Go.Proofs
open Go.Pm
set_option maxRecDepth 100000
set_option maxHeartbeats 4000000

theorem soundN_get {m : List Obj} {o : Obj} (h : soundN m o = true) {i : Nat} (hi : i < o.refs.length) : soundAt m o i = true := by
  unfold soundN at h
  exact List.all_eq_true.1 h i (List.mem_range.2 hi)
theorem sw4 {m : List Obj} {o : Obj} (hg : (bif (o.kind == 4) then soundN m o else false) = true) : ∀ i, i < o.refs.length → (wayG m m (o.refs.getD i [])).isSome = true := by
  intro i hi
  rw [Bool.cond_false_right, Bool.and_eq_true, beq_iff_eq] at hg
  have := soundN_get hg.2 hi
  unfold soundAt at this
  rwa [if_neg (fun e => by omega)] at this
theorem turn3 {m : List Obj} (hm : mapB m = true) {i : Nat} (hi : i < m.length) (hk : (m.getD i default).kind = 5) : (m.getD i default).refs.length = 3 := by
  simp only [mapB, Bool.and_eq_true, List.all_eq_true] at hm
  have e : m.getD i default = m[i] := by rw [List.getD_eq_getElem?_getD, List.getElem?_eq_getElem hi]; rfl
  rw [e] at hk ⊢
  have ho := hm.1.1 m[i] (List.getElem_mem hi)
  simp only [objB, Bool.and_eq_true] at ho
  have := ho.1.1.2
  rw [hk] at this
  simp [countB] at this
  omega
theorem sw5 {m : List Obj} {o : Obj} (h3 : o.kind = 5 → o.refs.length = 3) (hg : (bif (o.kind == 5) then soundN m o else false) = true) : o.refs.length = 3 ∧ (wayG m m (o.refs.getD 0 [])).isSome = true ∧ (wayG m m (o.refs.getD 2 [])).isSome = true := by
  rw [Bool.cond_false_right, Bool.and_eq_true, beq_iff_eq] at hg
  have h3 := h3 hg.1
  have a := soundN_get hg.2 (i := 0) (by omega)
  have b := soundN_get hg.2 (i := 2) (by omega)
  unfold soundAt at a b
  rw [if_neg (fun e => by omega)] at a b
  exact ⟨h3, a, b⟩
def badR (m : List Obj) (o : Obj) : Bool := decide (o.kind = 4) && soundN m o && !connN m o
def badT (m : List Obj) (o : Obj) : Bool := decide (o.kind = 5) && soundN m o && !meetsN m o
/-- A violation: text, kind, Ids. -/
def vioL (k : Int) (id : Str) : D := .agg [.str [], .int .i64 k, .list 1 [.str id]]
def routesS (m l : List Obj) : List D := (l.filter (badR m)).map fun o => vioL 5 o.id
def turnsS (m l : List Obj) : List D := (l.filter (badT m)).map fun o => vioL 6 o.id
theorem filt_step {α : Type} (p : Obj → Bool) (f : Obj → α) {m : List Obj} {i : Nat} (h : i < m.length) : ((m.take (i + 1)).filter p).map f = ((m.take i).filter p).map f ++ (if p (m.getD i default) then [f (m.getD i default)] else []) := by
  rw [take_succ_getD m i default h, List.filter_append, List.map_append]
  congr 1
  rw [List.filter_cons, List.filter_nil]
  cases hb : p (m.getD i default) <;> rfl
inductive Sh where
  | nn
  | rn (v : Nat)
  | nt (u : Nat)
  | rt (v u : Nat)
  | tr (v u : Nat)
theorem br_yes {m : List Obj} {o : Obj} (h : (o.kind = 4 ∧ soundN m o = true) ∧ connN m o = false) : badR m o = true ∧ badT m o = false := by
  unfold badR badT; rw [h.1.1, h.1.2, h.2]; exact ⟨rfl, rfl⟩
theorem bt_yes {m : List Obj} {o : Obj} (h : (o.kind = 5 ∧ soundN m o = true) ∧ meetsN m o = false) : badR m o = false ∧ badT m o = true := by
  unfold badR badT; rw [h.1.1, h.1.2, h.2]; exact ⟨rfl, rfl⟩
theorem b_no {m : List Obj} {o : Obj} (h1 : o.kind = 4 → soundN m o = true → connN m o = true) (h2 : o.kind = 5 → soundN m o = true → meetsN m o = true) : badR m o = false ∧ badT m o = false := by
  unfold badR badT
  constructor
  · by_cases e : o.kind = 4
    · cases hs : soundN m o with
      | false => simp
      | true => rw [h1 e hs]; simp
    · simp [e]
  · by_cases e : o.kind = 5
    · cases hs : soundN m o with
      | false => simp
      | true => rw [h2 e hs]; simp
    · simp [e]
theorem vio_step {m : List Obj} {i : Nat} (h : i < m.length) : routesS m (m.take (i + 1)) = routesS m (m.take i) ++ (if badR m (m.getD i default) then [vioL 5 (m.getD i default).id] else []) ∧
    turnsS m (m.take (i + 1)) = turnsS m (m.take i) ++ (if badT m (m.getD i default) then [vioL 6 (m.getD i default).id] else []) :=
  ⟨filt_step (badR m) (fun o => vioL 5 o.id) h, filt_step (badT m) (fun o => vioL 6 o.id) h⟩
theorem vio_len (m l : List Obj) : (routesS m l).length ≤ l.length ∧ (turnsS m l).length ≤ l.length := by
  unfold routesS turnsS
  rw [List.length_map, List.length_map]
  exact ⟨List.length_filter_le _ _, List.length_filter_le _ _⟩
theorem c16 (m : List Obj) : PCall Try.prog 16 [.d (encMap m)] fun x => SlRes 3 (if mapB m then routesS m m ++ turnsS m m else []) x := by
  refine PCall.intro Try.tabOk Try.f16 _ Try.func16 rfl (by decide) rfl fun z => ?_
  cases hm : mapB m with
  | false =>
    have c46f : PCall Try.prog 46 [.d (encMap m)] fun x => x = .tup [.d .nilp, .d (.bool false)] := by have := c46 m; rwa [hm] at this
    repeat' first
      | (with_reducible refine AW.seq ?_)
      | ((with_reducible refine AW.region Try.tabOk ?_); (conv => whnf))
      | ((with_reducible refine AW.ret ?_); (conv => whnf))
      | ((with_reducible refine AW.cond ?_); (conv => whnf))
      | ((with_reducible refine ACall.id ?_); (refine PCall.call (by first | exact c46f) rfl ?_); (intro x hx; first | subst hx | (obtain ⟨l_, rfl, hl_⟩ := hx.out)); (conv => whnf))
      | ((with_reducible apply And.intro) <;> (intro hb; (try simp at hb); (try (exfalso; first | omega | (simp_all; first | done | fail))); (try (conv => whnf))))
    exact .nil (by simp)
  | true =>
  have c46t : PCall Try.prog 46 [.d (encMap m)] fun x => x = .tup [.d (netD m), .d (.bool true)] := by have := c46 m; rwa [hm] at this
  repeat' first
    | (with_reducible refine AW.seq ?_)
    | ((with_reducible refine AW.region Try.tabOk ?_); (conv => whnf))
    | ((with_reducible refine AW.block ?_))
    | ((with_reducible refine AW.skip ?_); (conv => whnf))
    | ((with_reducible refine AW.cond ?_); (conv => whnf))
    | ((with_reducible refine ACall.id ?_); (refine PCall.call (by first | exact c46t) rfl ?_); (intro x hx; first | subst hx | (obtain ⟨l_, rfl, hl_⟩ := hx.out)); (conv => whnf))
    | ((with_reducible apply And.intro) <;> (intro hb; (try simp at hb); (try (exfalso; first | omega | (simp_all; first | done | fail))); (try (conv => whnf))))
    | (intro hlen; (conv => whnf))
  refine AW.loopS (X := Nat × Sh) [20, 19, 3] [] (fun x => [(21, .d (.int .i64 (x.1 : Int))), (5, match x.2 with | .nn => .d .nils | .rn v => .own 4 (v + 1) 3 | .nt _ => .d .nils | .rt v _ => .own 4 (v + 1) 3 | .tr v _ => .own 8 (v + 1) 3),
      (6, match x.2 with | .nn => .d .nils | .rn _ => .d .nils | .nt u => .own 4 (u + 1) 3 | .rt _ u => .own 8 (u + 1) 3 | .tr _ u => .own 4 (u + 1) 3)])
    (fun x => match x.2 with
      | .nn => []
      | .rn v => [(4, .row 70 3 (routesS m (m.take x.1)) (v + 1))]
      | .nt u => [(4, .row 70 3 (turnsS m (m.take x.1)) (u + 1))]
      | .rt v u => [(4, .row 70 3 (routesS m (m.take x.1)) (v + 1)), (8, .row 70 3 (turnsS m (m.take x.1)) (u + 1))]
      | .tr v u => [(8, .row 70 3 (routesS m (m.take x.1)) (v + 1)), (4, .row 70 3 (turnsS m (m.take x.1)) (u + 1))])
    (fun x => match x.2 with | .nn => 1 | .rn _ => 5 | .nt _ => 5 | .rt _ _ => 9 | .tr _ _ => 9)
    (fun x => x.1 ≤ m.length ∧ match x.2 with
      | .nn => routesS m (m.take x.1) = [] ∧ turnsS m (m.take x.1) = []
      | .rn _ => turnsS m (m.take x.1) = []
      | .nt _ => routesS m (m.take x.1) = []
      | _ => True) (fun x => m.length - x.1) (0, .nn) ⟨Nat.zero_le _, rfl, rfl⟩ (fun x _ => by rcases x with ⟨_, _ | _ | _ | _ | _⟩ <;> rfl) (by refine ⟨rfl, rfl, rfl, ?_, ?_⟩ <;> repeat' (first | exact trivial | exact OLe.refl _ | exact AV.le_refl _ | apply And.intro)) ?_
  intro ⟨i, sh⟩ ⟨hi, hv⟩
  dsimp only at hi hv
  have h3 : i < m.length → (m.getD (i : Int).toNat default).kind = 5 → (m.getD (i : Int).toNat default).refs.length = 3 := fun h => turn3 hm h
  have hll := vio_len m (m.take i)
  rw [List.length_take] at hll
  have hm6 : m.length ≤ 1000000 := by simp only [mapB, Bool.and_eq_true, decide_eq_true_eq] at hm; exact hm.2
  cases sh with
  | nn =>
    repeat' first
      | (with_reducible refine AW.seq ?_)
      | ((with_reducible refine AW.region Try.tabOk ?_); (conv => whnf))
      | ((with_reducible refine AW.ret ?_); (conv => whnf))
      | ((with_reducible refine AW.block ?_))
      | ((with_reducible refine AW.exit ?_); (conv => whnf))
      | ((with_reducible refine AW.skip ?_); (conv => whnf))
      | ((with_reducible refine AW.cond ?_); (conv => whnf))
      | ((with_reducible refine Own2.data ?_); (conv => whnf))
      | ((with_reducible apply Or.inl); apply Exists.intro; apply And.intro; (focus (intro hg; (conv => whnf); (repeat' first | (with_reducible exact ⟨rfl, rfl⟩) | ((with_reducible refine Own2.data ?_); (conv => whnf)) | (refine ⟨true, _, rfl, ?_⟩; (conv => whnf)) | (refine ⟨false, .nilp, rfl, ?_⟩; (conv => whnf)) | (refine ⟨_, _, by first | exact c47 m _ hm | exact c48 m _ hm (sw4 hg) | exact c49 m _ (sw5 (h3 (by assumption)) hg).1 (sw5 (h3 (by assumption)) hg).2.1 (sw5 (h3 (by assumption)) hg).2.2, ?_⟩; (conv => whnf)) | ((with_reducible apply Or.inl); (refine ⟨rfl, rfl, ?_⟩); (conv => whnf)) | ((with_reducible apply Or.inl); (with_reducible apply And.intro); (focus (simp only [rng]; omega)); (conv => whnf)) | (refine ⟨by first | omega | (simp at hg ⊢; omega) | (simp_all; first | done | fail), ?_⟩; (conv => whnf)) | ((with_reducible refine ACall.id ?_); (refine PCall.call (by first | exact c47 m _ hm | exact c48 m _ hm (sw4 hg) | exact c49 m _ (sw5 (h3 (by assumption)) hg).1 (sw5 (h3 (by assumption)) hg).2.1 (sw5 (h3 (by assumption)) hg).2.2) rfl ?_); (intro x hx; first | subst hx | (obtain ⟨l_, rfl, hl_⟩ := hx.out)); (conv => whnf)) | ((with_reducible apply Or.inr); (with_reducible apply And.intro) <;> (intro hb_; first | (cases hb_; done) | (conv => whnf))) | (intro hlen; (conv => whnf))); done)); (conv => whnf))
      | ((with_reducible apply Or.inl); (with_reducible apply And.intro); (focus (simp only [rng]; omega)); (conv => whnf))
      | ((with_reducible apply And.intro); (focus (first | omega | (exact True.intro) | (simp; omega) | (exact Nat.le_of_ble_eq_true rfl) | (exact ⟨rfl, Nat.le_of_ble_eq_true rfl⟩) | (exact ⟨Nat.le_of_ble_eq_true rfl, Nat.le_of_ble_eq_true rfl⟩) | (intro hg; first | (simp; first | done | fail) | (simp at hg ⊢; exact hg) | (simp at hg; exact hg) | exact hg))); (conv => whnf))
      | ((with_reducible apply And.intro) <;> (intro hb; (try simp at hb); (try (exfalso; first | omega | (simp_all; first | done | fail))); (try (conv => whnf))))
    · skip
      have hit : i < m.length := by assumption
      obtain ⟨st1, st2⟩ := vio_step hit
      have hb2 : badR m (m.getD i default) = true ∧ badT m (m.getD i default) = false := by rw [List.getD_eq_getElem?_getD]; exact br_yes (by assumption)
      rw [hb2.1] at st1
      rw [hb2.2] at st2
      simp only [if_true, Bool.false_eq_true, if_false, List.append_nil] at st1 st2
      exact .mk (i + 1, .rn 0) ⟨hit, (by simp [st2, hv])⟩ (by show m.length - (i + 1) < m.length - i; omega) ⟨rfl, rfl, rfl, ⟨OLe.of (by rw [st1]; first | rfl | (simp [hv]; rfl) | simp), trivial⟩, ⟨AV.le_refl _, AV.le_refl _, AV.le_refl _, AV.le_refl _, AV.le_refl _, AV.le_refl _, trivial⟩, rfl⟩
    · skip
      have hit : i < m.length := by assumption
      obtain ⟨st1, st2⟩ := vio_step hit
      have hb2 : badR m (m.getD i default) = false ∧ badT m (m.getD i default) = true := by rw [List.getD_eq_getElem?_getD]; exact bt_yes (by assumption)
      rw [hb2.1] at st1
      rw [hb2.2] at st2
      simp only [if_true, Bool.false_eq_true, if_false, List.append_nil] at st1 st2
      exact .mk (i + 1, .nt 0) ⟨hit, (by simp [st1, hv])⟩ (by show m.length - (i + 1) < m.length - i; omega) ⟨rfl, rfl, rfl, ⟨OLe.of (by rw [st2]; first | rfl | (simp [hv]; rfl) | simp), trivial⟩, ⟨AV.le_refl _, AV.le_refl _, AV.le_refl _, AV.le_refl _, AV.le_refl _, AV.le_refl _, trivial⟩, rfl⟩
    · skip
      have hit : i < m.length := by assumption
      obtain ⟨st1, st2⟩ := vio_step hit
      have hb2 : badR m (m.getD i default) = false ∧ badT m (m.getD i default) = false := by rw [List.getD_eq_getElem?_getD]; exact b_no (by assumption) (by assumption)
      rw [hb2.1] at st1
      rw [hb2.2] at st2
      simp only [if_true, Bool.false_eq_true, if_false, List.append_nil] at st1 st2
      exact .mk (i + 1, .nn) ⟨hit, ⟨by simp [st1, hv], by simp [st2, hv]⟩⟩ (by show m.length - (i + 1) < m.length - i; omega) ⟨rfl, rfl, rfl, trivial, ⟨AV.le_refl _, AV.le_refl _, AV.le_refl _, AV.le_refl _, AV.le_refl _, AV.le_refl _, trivial⟩, rfl⟩
    all_goals have he : i = m.length := by omega
    all_goals subst he
    all_goals rw [List.take_length] at hv
    have hv' : routesS m m = [] ∧ turnsS m m = [] := hv
    exact .nil (by rw [if_pos rfl, hv'.1, hv'.2]; rfl)
  | rn v =>
    repeat' first
      | (with_reducible refine AW.seq ?_)
      | ((with_reducible refine AW.region Try.tabOk ?_); (conv => whnf))
      | ((with_reducible refine AW.ret ?_); (conv => whnf))
      | ((with_reducible refine AW.block ?_))
      | ((with_reducible refine AW.exit ?_); (conv => whnf))
      | ((with_reducible refine AW.skip ?_); (conv => whnf))
      | ((with_reducible refine AW.cond ?_); (conv => whnf))
      | ((with_reducible refine Own2.data ?_); (conv => whnf))
      | ((with_reducible apply Or.inl); apply Exists.intro; apply And.intro; (focus (intro hg; (conv => whnf); (repeat' first | (with_reducible exact ⟨rfl, rfl⟩) | ((with_reducible refine Own2.data ?_); (conv => whnf)) | (refine ⟨true, _, rfl, ?_⟩; (conv => whnf)) | (refine ⟨false, .nilp, rfl, ?_⟩; (conv => whnf)) | (refine ⟨_, _, by first | exact c47 m _ hm | exact c48 m _ hm (sw4 hg) | exact c49 m _ (sw5 (h3 (by assumption)) hg).1 (sw5 (h3 (by assumption)) hg).2.1 (sw5 (h3 (by assumption)) hg).2.2, ?_⟩; (conv => whnf)) | ((with_reducible apply Or.inl); (refine ⟨rfl, rfl, ?_⟩); (conv => whnf)) | ((with_reducible apply Or.inl); (with_reducible apply And.intro); (focus (simp only [rng]; omega)); (conv => whnf)) | (refine ⟨by first | omega | (simp at hg ⊢; omega) | (simp_all; first | done | fail), ?_⟩; (conv => whnf)) | ((with_reducible refine ACall.id ?_); (refine PCall.call (by first | exact c47 m _ hm | exact c48 m _ hm (sw4 hg) | exact c49 m _ (sw5 (h3 (by assumption)) hg).1 (sw5 (h3 (by assumption)) hg).2.1 (sw5 (h3 (by assumption)) hg).2.2) rfl ?_); (intro x hx; first | subst hx | (obtain ⟨l_, rfl, hl_⟩ := hx.out)); (conv => whnf)) | ((with_reducible apply Or.inr); (with_reducible apply And.intro) <;> (intro hb_; first | (cases hb_; done) | (conv => whnf))) | (intro hlen; (conv => whnf))); done)); (conv => whnf))
      | ((with_reducible apply Or.inl); (with_reducible apply And.intro); (focus (simp only [rng]; omega)); (conv => whnf))
      | ((with_reducible apply And.intro); (focus (first | omega | (exact True.intro) | (simp; omega) | (exact Nat.le_of_ble_eq_true rfl) | (exact ⟨rfl, Nat.le_of_ble_eq_true rfl⟩) | (exact ⟨Nat.le_of_ble_eq_true rfl, Nat.le_of_ble_eq_true rfl⟩) | (intro hg; first | (simp; first | done | fail) | (simp at hg ⊢; exact hg) | (simp at hg; exact hg) | exact hg))); (conv => whnf))
      | ((with_reducible apply And.intro) <;> (intro hb; (try simp at hb); (try (exfalso; first | omega | (simp_all; first | done | fail))); (try (conv => whnf))))
      | ((with_reducible refine And.intro (Side.out ?_) ?_); rotate_left; (conv => whnf); rotate_right)
    · exact ⟨rfl, by simp; omega, by simp [maxLen]; omega⟩
    · skip
      have hit : i < m.length := by assumption
      obtain ⟨st1, st2⟩ := vio_step hit
      have hb2 : badR m (m.getD i default) = true ∧ badT m (m.getD i default) = false := by rw [List.getD_eq_getElem?_getD]; exact br_yes (by assumption)
      rw [hb2.1] at st1
      rw [hb2.2] at st2
      simp only [if_true, Bool.false_eq_true, if_false, List.append_nil] at st1 st2
      exact .mk (i + 1, .rn (v + 1)) ⟨hit, (by simp [st2, hv])⟩ (by show m.length - (i + 1) < m.length - i; omega) ⟨rfl, rfl, rfl, ⟨OLe.of (by rw [st1]; first | rfl | (simp [hv]; rfl) | simp), trivial⟩, ⟨AV.le_refl _, AV.le_refl _, AV.le_refl _, AV.le_refl _, AV.le_refl _, AV.le_refl _, trivial⟩, rfl⟩
    · skip
      have hit : i < m.length := by assumption
      obtain ⟨st1, st2⟩ := vio_step hit
      have hb2 : badR m (m.getD i default) = false ∧ badT m (m.getD i default) = true := by rw [List.getD_eq_getElem?_getD]; exact bt_yes (by assumption)
      rw [hb2.1] at st1
      rw [hb2.2] at st2
      simp only [if_true, Bool.false_eq_true, if_false, List.append_nil] at st1 st2
      exact .mk (i + 1, .rt v 0) ⟨hit, trivial⟩ (by show m.length - (i + 1) < m.length - i; omega) ⟨rfl, rfl, rfl, ⟨OLe.of (by rw [st1]; first | rfl | (simp [hv]; rfl) | simp), OLe.of (by rw [st2]; first | rfl | (simp [hv]; rfl) | simp), trivial⟩, ⟨AV.le_refl _, AV.le_refl _, AV.le_refl _, AV.le_refl _, AV.le_refl _, AV.le_refl _, trivial⟩, rfl⟩
    · skip
      have hit : i < m.length := by assumption
      obtain ⟨st1, st2⟩ := vio_step hit
      have hb2 : badR m (m.getD i default) = false ∧ badT m (m.getD i default) = false := by rw [List.getD_eq_getElem?_getD]; exact b_no (by assumption) (by assumption)
      rw [hb2.1] at st1
      rw [hb2.2] at st2
      simp only [if_true, Bool.false_eq_true, if_false, List.append_nil] at st1 st2
      exact .mk (i + 1, .rn v) ⟨hit, (by simp [st2, hv])⟩ (by show m.length - (i + 1) < m.length - i; omega) ⟨rfl, rfl, rfl, ⟨OLe.of (by rw [st1]; first | rfl | (simp [hv]; rfl) | simp), trivial⟩, ⟨AV.le_refl _, AV.le_refl _, AV.le_refl _, AV.le_refl _, AV.le_refl _, AV.le_refl _, trivial⟩, rfl⟩
    all_goals have he : i = m.length := by omega
    all_goals subst he
    all_goals rw [List.take_length] at hv
    all_goals rw [List.take_length] at hll
    · exact ⟨rfl, by simp; omega, by simp [maxLen]; omega⟩
    · have hv' : turnsS m m = [] := hv
      show SlRes 3 _ (.d (.list 3 (routesS m (m.take m.length) ++ [])))
      rw [if_pos rfl, hv', List.take_length]; exact .row
  | nt u =>
    repeat' first
      | (with_reducible refine AW.seq ?_)
      | ((with_reducible refine AW.region Try.tabOk ?_); (conv => whnf))
      | ((with_reducible refine AW.block ?_))
      | ((with_reducible refine AW.exit ?_); (conv => whnf))
      | ((with_reducible refine AW.skip ?_); (conv => whnf))
      | ((with_reducible refine AW.cond ?_); (conv => whnf))
      | ((with_reducible refine Own2.data ?_); (conv => whnf))
      | ((with_reducible apply Or.inl); apply Exists.intro; apply And.intro; (focus (intro hg; (conv => whnf); (repeat' first | (with_reducible exact ⟨rfl, rfl⟩) | ((with_reducible refine Own2.data ?_); (conv => whnf)) | (refine ⟨true, _, rfl, ?_⟩; (conv => whnf)) | (refine ⟨false, .nilp, rfl, ?_⟩; (conv => whnf)) | (refine ⟨_, _, by first | exact c47 m _ hm | exact c48 m _ hm (sw4 hg) | exact c49 m _ (sw5 (h3 (by assumption)) hg).1 (sw5 (h3 (by assumption)) hg).2.1 (sw5 (h3 (by assumption)) hg).2.2, ?_⟩; (conv => whnf)) | ((with_reducible apply Or.inl); (refine ⟨rfl, rfl, ?_⟩); (conv => whnf)) | ((with_reducible apply Or.inl); (with_reducible apply And.intro); (focus (simp only [rng]; omega)); (conv => whnf)) | (refine ⟨by first | omega | (simp at hg ⊢; omega) | (simp_all; first | done | fail), ?_⟩; (conv => whnf)) | ((with_reducible refine ACall.id ?_); (refine PCall.call (by first | exact c47 m _ hm | exact c48 m _ hm (sw4 hg) | exact c49 m _ (sw5 (h3 (by assumption)) hg).1 (sw5 (h3 (by assumption)) hg).2.1 (sw5 (h3 (by assumption)) hg).2.2) rfl ?_); (intro x hx; first | subst hx | (obtain ⟨l_, rfl, hl_⟩ := hx.out)); (conv => whnf)) | ((with_reducible apply Or.inr); (with_reducible apply And.intro) <;> (intro hb_; first | (cases hb_; done) | (conv => whnf))) | (intro hlen; (conv => whnf))); done)); (conv => whnf))
      | ((with_reducible apply Or.inl); (with_reducible apply And.intro); (focus (simp only [rng]; omega)); (conv => whnf))
      | ((with_reducible apply And.intro); (focus (first | omega | (exact True.intro) | (simp; omega) | (exact Nat.le_of_ble_eq_true rfl) | (exact ⟨rfl, Nat.le_of_ble_eq_true rfl⟩) | (exact ⟨Nat.le_of_ble_eq_true rfl, Nat.le_of_ble_eq_true rfl⟩) | (intro hg; first | (simp; first | done | fail) | (simp at hg ⊢; exact hg) | (simp at hg; exact hg) | exact hg))); (conv => whnf))
      | ((with_reducible apply And.intro) <;> (intro hb; (try simp at hb); (try (exfalso; first | omega | (simp_all; first | done | fail))); (try (conv => whnf))))
      | ((with_reducible refine And.intro (Side.out ?_) ?_); rotate_left; (conv => whnf); rotate_right)
    · skip
      have hit : i < m.length := by assumption
      obtain ⟨st1, st2⟩ := vio_step hit
      have hb2 : badR m (m.getD i default) = true ∧ badT m (m.getD i default) = false := by rw [List.getD_eq_getElem?_getD]; exact br_yes (by assumption)
      rw [hb2.1] at st1
      rw [hb2.2] at st2
      simp only [if_true, Bool.false_eq_true, if_false, List.append_nil] at st1 st2
      exact .mk (i + 1, .tr 0 u) ⟨hit, trivial⟩ (by show m.length - (i + 1) < m.length - i; omega) ⟨rfl, rfl, rfl, ⟨OLe.of (by rw [st1]; first | rfl | (simp [hv]; rfl) | simp), OLe.of (by rw [st2]; first | rfl | (simp [hv]; rfl) | simp), trivial⟩, ⟨AV.le_refl _, AV.le_refl _, AV.le_refl _, AV.le_refl _, AV.le_refl _, AV.le_refl _, trivial⟩, rfl⟩
    · exact ⟨rfl, by simp; omega, by simp [maxLen]; omega⟩
    · skip
      have hit : i < m.length := by assumption
      obtain ⟨st1, st2⟩ := vio_step hit
      have hb2 : badR m (m.getD i default) = false ∧ badT m (m.getD i default) = true := by rw [List.getD_eq_getElem?_getD]; exact bt_yes (by assumption)
      rw [hb2.1] at st1
      rw [hb2.2] at st2
      simp only [if_true, Bool.false_eq_true, if_false, List.append_nil] at st1 st2
      exact .mk (i + 1, .nt (u + 1)) ⟨hit, (by simp [st1, hv])⟩ (by show m.length - (i + 1) < m.length - i; omega) ⟨rfl, rfl, rfl, ⟨OLe.of (by rw [st2]; first | rfl | (simp [hv]; rfl) | simp), trivial⟩, ⟨AV.le_refl _, AV.le_refl _, AV.le_refl _, AV.le_refl _, AV.le_refl _, AV.le_refl _, trivial⟩, rfl⟩
    · skip
      have hit : i < m.length := by assumption
      obtain ⟨st1, st2⟩ := vio_step hit
      have hb2 : badR m (m.getD i default) = false ∧ badT m (m.getD i default) = false := by rw [List.getD_eq_getElem?_getD]; exact b_no (by assumption) (by assumption)
      rw [hb2.1] at st1
      rw [hb2.2] at st2
      simp only [if_true, Bool.false_eq_true, if_false, List.append_nil] at st1 st2
      exact .mk (i + 1, .nt u) ⟨hit, (by simp [st1, hv])⟩ (by show m.length - (i + 1) < m.length - i; omega) ⟨rfl, rfl, rfl, ⟨OLe.of (by rw [st2]; first | rfl | (simp [hv]; rfl) | simp), trivial⟩, ⟨AV.le_refl _, AV.le_refl _, AV.le_refl _, AV.le_refl _, AV.le_refl _, AV.le_refl _, trivial⟩, rfl⟩
    all_goals have he : i = m.length := by omega
    all_goals subst he
    all_goals rw [List.take_length] at hv
    all_goals rw [List.take_length] at hll
    have hv' : routesS m m = [] := hv
    rw [if_pos rfl, hv', List.nil_append]
    split <;> (conv => whnf)
    · rename_i heq
      have heq2 : (turnsS m (m.take m.length)).isEmpty = true := heq
      rw [List.take_length, List.isEmpty_iff] at heq2
      repeat' first
        | ((with_reducible refine AW.ret ?_); (conv => whnf))
      exact .nil heq2
    · have hz : (turnsS m (m.take m.length)).length ≤ 1000000 := by rw [List.take_length]; omega
      refine ⟨⟨by show (turnsS m (m.take m.length)).length * 48 ≤ _; omega, by show (turnsS m (m.take m.length)).length ≤ _; simp only [maxLen]; omega⟩, ?_⟩
      (conv => whnf)
      repeat' first
        | ((with_reducible refine AW.ret ?_); (conv => whnf))
        | ((with_reducible apply And.intro); (focus (first | omega | (exact True.intro) | (simp; omega) | (exact Nat.le_of_ble_eq_true rfl) | (exact ⟨rfl, Nat.le_of_ble_eq_true rfl⟩) | (exact ⟨Nat.le_of_ble_eq_true rfl, Nat.le_of_ble_eq_true rfl⟩) | (intro hg; first | (simp; first | done | fail) | (simp at hg ⊢; exact hg) | (simp at hg; exact hg) | exact hg))); (conv => whnf))
      show SlRes 3 _ (.d (.list 3 (turnsS m (m.take m.length))))
      rw [List.take_length]; exact .row
  | rt v u =>
    repeat' first
      | (with_reducible refine AW.seq ?_)
      | ((with_reducible refine AW.region Try.tabOk ?_); (conv => whnf))
      | ((with_reducible refine AW.ret ?_); (conv => whnf))
      | ((with_reducible refine AW.block ?_))
      | ((with_reducible refine AW.exit ?_); (conv => whnf))
      | ((with_reducible refine AW.skip ?_); (conv => whnf))
      | ((with_reducible refine AW.cond ?_); (conv => whnf))
      | ((with_reducible refine Own2.data ?_); (conv => whnf))
      | ((with_reducible apply Or.inl); apply Exists.intro; apply And.intro; (focus (intro hg; (conv => whnf); (repeat' first | (with_reducible exact ⟨rfl, rfl⟩) | ((with_reducible refine Own2.data ?_); (conv => whnf)) | (refine ⟨true, _, rfl, ?_⟩; (conv => whnf)) | (refine ⟨false, .nilp, rfl, ?_⟩; (conv => whnf)) | (refine ⟨_, _, by first | exact c47 m _ hm | exact c48 m _ hm (sw4 hg) | exact c49 m _ (sw5 (h3 (by assumption)) hg).1 (sw5 (h3 (by assumption)) hg).2.1 (sw5 (h3 (by assumption)) hg).2.2, ?_⟩; (conv => whnf)) | ((with_reducible apply Or.inl); (refine ⟨rfl, rfl, ?_⟩); (conv => whnf)) | ((with_reducible apply Or.inl); (with_reducible apply And.intro); (focus (simp only [rng]; omega)); (conv => whnf)) | (refine ⟨by first | omega | (simp at hg ⊢; omega) | (simp_all; first | done | fail), ?_⟩; (conv => whnf)) | ((with_reducible refine ACall.id ?_); (refine PCall.call (by first | exact c47 m _ hm | exact c48 m _ hm (sw4 hg) | exact c49 m _ (sw5 (h3 (by assumption)) hg).1 (sw5 (h3 (by assumption)) hg).2.1 (sw5 (h3 (by assumption)) hg).2.2) rfl ?_); (intro x hx; first | subst hx | (obtain ⟨l_, rfl, hl_⟩ := hx.out)); (conv => whnf)) | ((with_reducible apply Or.inr); (with_reducible apply And.intro) <;> (intro hb_; first | (cases hb_; done) | (conv => whnf))) | (intro hlen; (conv => whnf))); done)); (conv => whnf))
      | ((with_reducible apply Or.inl); (with_reducible apply And.intro); (focus (simp only [rng]; omega)); (conv => whnf))
      | ((with_reducible apply And.intro); (focus (first | omega | (exact True.intro) | (simp; omega) | (exact Nat.le_of_ble_eq_true rfl) | (exact ⟨rfl, Nat.le_of_ble_eq_true rfl⟩) | (exact ⟨Nat.le_of_ble_eq_true rfl, Nat.le_of_ble_eq_true rfl⟩) | (intro hg; first | (simp; first | done | fail) | (simp at hg ⊢; exact hg) | (simp at hg; exact hg) | exact hg))); (conv => whnf))
      | ((with_reducible apply And.intro) <;> (intro hb; (try simp at hb); (try (exfalso; first | omega | (simp_all; first | done | fail))); (try (conv => whnf))))
      | ((with_reducible refine And.intro (Side.out ?_) ?_); rotate_left; (conv => whnf); rotate_right)
    · exact ⟨rfl, by simp; omega, by simp [maxLen]; omega⟩
    · skip
      have hit : i < m.length := by assumption
      obtain ⟨st1, st2⟩ := vio_step hit
      have hb2 : badR m (m.getD i default) = true ∧ badT m (m.getD i default) = false := by rw [List.getD_eq_getElem?_getD]; exact br_yes (by assumption)
      rw [hb2.1] at st1
      rw [hb2.2] at st2
      simp only [if_true, Bool.false_eq_true, if_false, List.append_nil] at st1 st2
      exact .mk (i + 1, .rt (v + 1) u) ⟨hit, trivial⟩ (by show m.length - (i + 1) < m.length - i; omega) ⟨rfl, rfl, rfl, ⟨OLe.of (by rw [st1]; first | rfl | (simp [hv]; rfl) | simp), OLe.of (by rw [st2]; first | rfl | (simp [hv]; rfl) | simp), trivial⟩, ⟨AV.le_refl _, AV.le_refl _, AV.le_refl _, AV.le_refl _, AV.le_refl _, AV.le_refl _, trivial⟩, rfl⟩
    · exact ⟨rfl, by simp; omega, by simp [maxLen]; omega⟩
    · skip
      have hit : i < m.length := by assumption
      obtain ⟨st1, st2⟩ := vio_step hit
      have hb2 : badR m (m.getD i default) = false ∧ badT m (m.getD i default) = true := by rw [List.getD_eq_getElem?_getD]; exact bt_yes (by assumption)
      rw [hb2.1] at st1
      rw [hb2.2] at st2
      simp only [if_true, Bool.false_eq_true, if_false, List.append_nil] at st1 st2
      exact .mk (i + 1, .rt v (u + 1)) ⟨hit, trivial⟩ (by show m.length - (i + 1) < m.length - i; omega) ⟨rfl, rfl, rfl, ⟨OLe.of (by rw [st1]; first | rfl | (simp [hv]; rfl) | simp), OLe.of (by rw [st2]; first | rfl | (simp [hv]; rfl) | simp), trivial⟩, ⟨AV.le_refl _, AV.le_refl _, AV.le_refl _, AV.le_refl _, AV.le_refl _, AV.le_refl _, trivial⟩, rfl⟩
    · skip
      have hit : i < m.length := by assumption
      obtain ⟨st1, st2⟩ := vio_step hit
      have hb2 : badR m (m.getD i default) = false ∧ badT m (m.getD i default) = false := by rw [List.getD_eq_getElem?_getD]; exact b_no (by assumption) (by assumption)
      rw [hb2.1] at st1
      rw [hb2.2] at st2
      simp only [if_true, Bool.false_eq_true, if_false, List.append_nil] at st1 st2
      exact .mk (i + 1, .rt v u) ⟨hit, trivial⟩ (by show m.length - (i + 1) < m.length - i; omega) ⟨rfl, rfl, rfl, ⟨OLe.of (by rw [st1]; first | rfl | (simp [hv]; rfl) | simp), OLe.of (by rw [st2]; first | rfl | (simp [hv]; rfl) | simp), trivial⟩, ⟨AV.le_refl _, AV.le_refl _, AV.le_refl _, AV.le_refl _, AV.le_refl _, AV.le_refl _, trivial⟩, rfl⟩
    all_goals have he : i = m.length := by omega
    all_goals subst he
    all_goals rw [List.take_length] at hll
    · exact ⟨rfl, by simp; omega, by simp [maxLen]; omega⟩
    · show SlRes 3 _ (.d (.list 3 (routesS m (m.take m.length) ++ turnsS m (m.take m.length))))
      rw [if_pos rfl, List.take_length]; exact .row
  | tr v u =>
    repeat' first
      | (with_reducible refine AW.seq ?_)
      | ((with_reducible refine AW.region Try.tabOk ?_); (conv => whnf))
      | ((with_reducible refine AW.ret ?_); (conv => whnf))
      | ((with_reducible refine AW.block ?_))
      | ((with_reducible refine AW.exit ?_); (conv => whnf))
      | ((with_reducible refine AW.skip ?_); (conv => whnf))
      | ((with_reducible refine AW.cond ?_); (conv => whnf))
      | ((with_reducible refine Own2.data ?_); (conv => whnf))
      | ((with_reducible apply Or.inl); apply Exists.intro; apply And.intro; (focus (intro hg; (conv => whnf); (repeat' first | (with_reducible exact ⟨rfl, rfl⟩) | ((with_reducible refine Own2.data ?_); (conv => whnf)) | (refine ⟨true, _, rfl, ?_⟩; (conv => whnf)) | (refine ⟨false, .nilp, rfl, ?_⟩; (conv => whnf)) | (refine ⟨_, _, by first | exact c47 m _ hm | exact c48 m _ hm (sw4 hg) | exact c49 m _ (sw5 (h3 (by assumption)) hg).1 (sw5 (h3 (by assumption)) hg).2.1 (sw5 (h3 (by assumption)) hg).2.2, ?_⟩; (conv => whnf)) | ((with_reducible apply Or.inl); (refine ⟨rfl, rfl, ?_⟩); (conv => whnf)) | ((with_reducible apply Or.inl); (with_reducible apply And.intro); (focus (simp only [rng]; omega)); (conv => whnf)) | (refine ⟨by first | omega | (simp at hg ⊢; omega) | (simp_all; first | done | fail), ?_⟩; (conv => whnf)) | ((with_reducible refine ACall.id ?_); (refine PCall.call (by first | exact c47 m _ hm | exact c48 m _ hm (sw4 hg) | exact c49 m _ (sw5 (h3 (by assumption)) hg).1 (sw5 (h3 (by assumption)) hg).2.1 (sw5 (h3 (by assumption)) hg).2.2) rfl ?_); (intro x hx; first | subst hx | (obtain ⟨l_, rfl, hl_⟩ := hx.out)); (conv => whnf)) | ((with_reducible apply Or.inr); (with_reducible apply And.intro) <;> (intro hb_; first | (cases hb_; done) | (conv => whnf))) | (intro hlen; (conv => whnf))); done)); (conv => whnf))
      | ((with_reducible apply Or.inl); (with_reducible apply And.intro); (focus (simp only [rng]; omega)); (conv => whnf))
      | ((with_reducible apply And.intro); (focus (first | omega | (exact True.intro) | (simp; omega) | (exact Nat.le_of_ble_eq_true rfl) | (exact ⟨rfl, Nat.le_of_ble_eq_true rfl⟩) | (exact ⟨Nat.le_of_ble_eq_true rfl, Nat.le_of_ble_eq_true rfl⟩) | (intro hg; first | (simp; first | done | fail) | (simp at hg ⊢; exact hg) | (simp at hg; exact hg) | exact hg))); (conv => whnf))
      | ((with_reducible apply And.intro) <;> (intro hb; (try simp at hb); (try (exfalso; first | omega | (simp_all; first | done | fail))); (try (conv => whnf))))
      | ((with_reducible refine And.intro (Side.out ?_) ?_); rotate_left; (conv => whnf); rotate_right)
    · exact ⟨rfl, by simp; omega, by simp [maxLen]; omega⟩
    · skip
      have hit : i < m.length := by assumption
      obtain ⟨st1, st2⟩ := vio_step hit
      have hb2 : badR m (m.getD i default) = true ∧ badT m (m.getD i default) = false := by rw [List.getD_eq_getElem?_getD]; exact br_yes (by assumption)
      rw [hb2.1] at st1
      rw [hb2.2] at st2
      simp only [if_true, Bool.false_eq_true, if_false, List.append_nil] at st1 st2
      exact .mk (i + 1, .tr (v + 1) u) ⟨hit, trivial⟩ (by show m.length - (i + 1) < m.length - i; omega) ⟨rfl, rfl, rfl, ⟨OLe.of (by rw [st1]; first | rfl | (simp [hv]; rfl) | simp), OLe.of (by rw [st2]; first | rfl | (simp [hv]; rfl) | simp), trivial⟩, ⟨AV.le_refl _, AV.le_refl _, AV.le_refl _, AV.le_refl _, AV.le_refl _, AV.le_refl _, trivial⟩, rfl⟩
    · exact ⟨rfl, by simp; omega, by simp [maxLen]; omega⟩
    · skip
      have hit : i < m.length := by assumption
      obtain ⟨st1, st2⟩ := vio_step hit
      have hb2 : badR m (m.getD i default) = false ∧ badT m (m.getD i default) = true := by rw [List.getD_eq_getElem?_getD]; exact bt_yes (by assumption)
      rw [hb2.1] at st1
      rw [hb2.2] at st2
      simp only [if_true, Bool.false_eq_true, if_false, List.append_nil] at st1 st2
      exact .mk (i + 1, .tr v (u + 1)) ⟨hit, trivial⟩ (by show m.length - (i + 1) < m.length - i; omega) ⟨rfl, rfl, rfl, ⟨OLe.of (by rw [st1]; first | rfl | (simp [hv]; rfl) | simp), OLe.of (by rw [st2]; first | rfl | (simp [hv]; rfl) | simp), trivial⟩, ⟨AV.le_refl _, AV.le_refl _, AV.le_refl _, AV.le_refl _, AV.le_refl _, AV.le_refl _, trivial⟩, rfl⟩
    · skip
      have hit : i < m.length := by assumption
      obtain ⟨st1, st2⟩ := vio_step hit
      have hb2 : badR m (m.getD i default) = false ∧ badT m (m.getD i default) = false := by rw [List.getD_eq_getElem?_getD]; exact b_no (by assumption) (by assumption)
      rw [hb2.1] at st1
      rw [hb2.2] at st2
      simp only [if_true, Bool.false_eq_true, if_false, List.append_nil] at st1 st2
      exact .mk (i + 1, .tr v u) ⟨hit, trivial⟩ (by show m.length - (i + 1) < m.length - i; omega) ⟨rfl, rfl, rfl, ⟨OLe.of (by rw [st1]; first | rfl | (simp [hv]; rfl) | simp), OLe.of (by rw [st2]; first | rfl | (simp [hv]; rfl) | simp), trivial⟩, ⟨AV.le_refl _, AV.le_refl _, AV.le_refl _, AV.le_refl _, AV.le_refl _, AV.le_refl _, trivial⟩, rfl⟩
    all_goals have he : i = m.length := by omega
    all_goals subst he
    all_goals rw [List.take_length] at hll
    · exact ⟨rfl, by simp; omega, by simp [maxLen]; omega⟩
    · show SlRes 3 _ (.d (.list 3 (routesS m (m.take m.length) ++ turnsS m (m.take m.length))))
      rw [if_pos rfl, List.take_length]; exact .row
end Go.Proofs
end
