/- What the functions of the program compute, each as a contract: the conditions stand in each statement. -/
import Derived.Test.YtajnbdjipmckpaaPmS3
set_option linter.all false
section
/- Contracts: the reference: sound objects of a kind. -/
namespace Go.Proofs
open Go.Pm
set_option maxRecDepth 100000
set_option maxHeartbeats 4000000

theorem refs1 {m : List Obj} (hm : mapB m = true) {k : Nat} (hk : k < m.length) (h : (m.getD k default).kind = 1) : (m.getD k default).refs = [] := by
  simp only [mapB, Bool.and_eq_true, List.all_eq_true] at hm
  have := hm.1.1 (m.getD k default) (by rw [List.getD_eq_getElem?_getD, List.getElem?_eq_getElem hk]; exact List.getElem_mem hk)
  simp only [objB, Bool.and_eq_true] at this
  have h2 := this.1.1.2
  rw [countB, if_pos h] at h2
  simp at h2
  exact h2.1
def sound1 (m : List Obj) (o : Obj) : Bool := soundF m (fun _ => true) o
def sndN (m : List Obj) (o : Obj) : Bool := if o.kind = 4 ∨ o.kind = 5 then soundF m (sound1 m) o else sound1 m o
theorem sound_nil (m : List Obj) (f : Obj → Bool) {o : Obj} (h : o.refs = []) : soundF m f o = true := by unfold soundF; rw [h]; rfl
theorem c27a (m : List Obj) (hm : mapB m = true) (o : Obj) (h : o.refs = []) : PCall Try.prog 27 [.d (encMap m), .d (encObj o)] fun v => v = .d (.bool true) := by
  have := c27s m hm (fun _ => true) o (fun hne => absurd h hne)
  rwa [sound_nil m _ h] at this
theorem c27b (m : List Obj) (hm : mapB m = true) (o : Obj) (h : ¬(o.kind = 4 ∨ o.kind = 5)) : PCall Try.prog 27 [.d (encMap m), .d (encObj o)] fun v => v = .d (.bool (sound1 m o)) :=
  c27s m hm (fun _ => true) o fun _ k hk ⟨i, hi⟩ => c27a m hm _ (refs1 hm hk (by rw [hi, refKind, if_neg (by omega)]))
theorem c27 (m : List Obj) (hm : mapB m = true) (o : Obj) : PCall Try.prog 27 [.d (encMap m), .d (encObj o)] fun v => v = .d (.bool (sndN m o)) := by
  unfold sndN
  by_cases h : o.kind = 4 ∨ o.kind = 5
  · rw [if_pos h]
    exact c27s m hm (sound1 m) o fun _ k hk ⟨i, hi⟩ => c27b m hm _ (by rw [hi, refKind]; split <;> omega)
  · rw [if_neg h]
    exact c27b m hm o h
def ofN (m : List Obj) (k : Int) : List Obj := if mapB m then m.filter fun o => decide (o.kind = k) && sndN m o else []
theorem filter_step {m : List Obj} {p : Obj → Bool} {i : Nat} (h : i < m.length) : (m.take (i + 1)).filter p = (m.take i).filter p ++ (if p (m.getD i default) then [m.getD i default] else []) := by
  rw [take_succ_getD m i default h, List.filter_append, List.filter_cons, List.filter_nil]
theorem c50 (m : List Obj) (k : Int) : PCall Try.prog 50 [.d (encMap m), .d (.int .i64 k)] fun x => x = .d (encObjs (ofN m k)) := by
  refine PCall.res ?_ rfl
  cases hm : mapB m with
  | false =>
    have c84f : PCall Try.prog 84 [.d (encMap m)] fun x => x = .d (.bool false) := by have := c84 m; rwa [hm] at this
    refine PCall.intro Try.tabOk Try.f50 _ Try.func50 rfl (by decide) rfl fun z => ?_
    repeat' first
      | (with_reducible refine AW.seq ?_)
      | ((with_reducible refine AW.region Try.tabOk ?_); (conv => whnf))
      | ((with_reducible refine AW.block ?_))
    (try (any_goals (refine Side.mk ⟨rfl, ?_, ?_⟩ <;> first | (simp [maxLen]; done) | (simp [maxLen]; omega))))
    refine AW.loopS (X := Nat) [2, 1] [0] (fun i => [(6, .d (.int .i64 (i : Int))), (5, .d .nils)]) (fun _ => []) (fun _ => 1) (fun i => i ≤ m.length) (fun i => m.length - i) 0 (Nat.zero_le _) (fun _ _ => rfl) (by refine ⟨rfl, rfl, rfl, ?_, ?_⟩ <;> repeat' (first | exact trivial | exact OLe.refl _ | exact AV.le_refl _ | apply And.intro)) ?_
    intro i hi
    dsimp only at hi ⊢
    repeat' first
      | (with_reducible refine AW.seq ?_)
      | ((with_reducible refine AW.region Try.tabOk ?_); (conv => whnf))
      | ((with_reducible refine AW.ret ?_); (conv => whnf))
      | ((with_reducible refine AW.exit ?_); (conv => whnf))
      | ((with_reducible refine AW.cond ?_); (conv => whnf))
      | ((with_reducible refine ACall.id ?_); (refine PCall.call (by first | exact c84f) rfl ?_); (intro x hx; first | subst hx | (obtain ⟨l_, rfl, hl_⟩ := hx.out)); (conv => whnf))
      | ((with_reducible apply Or.inl); apply Exists.intro; apply And.intro; (focus (intro hg; (conv => whnf); (repeat' first | (with_reducible exact ⟨rfl, rfl⟩) | ((with_reducible refine Own2.data ?_); (conv => whnf)) | (refine ⟨true, _, rfl, ?_⟩; (conv => whnf)) | (refine ⟨false, .nilp, rfl, ?_⟩; (conv => whnf)) | (refine ⟨_, _, by first | exact c84f, ?_⟩; (conv => whnf)) | ((with_reducible apply Or.inl); (refine ⟨rfl, rfl, ?_⟩); (conv => whnf)) | ((with_reducible apply Or.inl); (with_reducible apply And.intro); (focus (first | assumption | (simp only [rng]; omega) | (simp [rng, IntKind.bits]; omega))); (conv => whnf)) | (refine ⟨by first | omega | (simp; omega) | (simp at hg ⊢; omega) | (refine ⟨rfl, ?_, ?_⟩ <;> first | (simp [maxLen]; done) | (simp [maxLen]; omega)) | (exact hg) | (intro hq_; rw [hg]; exact hq_) | (simp_all; first | done | fail), ?_⟩; (conv => whnf)) | ((with_reducible refine ACall.id ?_); (refine PCall.call (by first | exact c84f) rfl ?_); (intro x hx; first | subst hx | (obtain ⟨l_, rfl, hl_⟩ := hx.out)); (conv => whnf)) | ((with_reducible apply Or.inr); (with_reducible exact ⟨rfl, rfl⟩)) | ((with_reducible apply Or.inr); (with_reducible apply And.intro) <;> (intro hb_; first | (cases hb_; done) | (conv => whnf))) | (intro hlen; (conv => whnf))); done)); (conv => whnf))
      | ((with_reducible apply And.intro); (focus (first | omega | assumption | (exact True.intro) | (simp; omega) | (exact Nat.le_of_ble_eq_true rfl) | (exact ⟨rfl, Nat.le_of_ble_eq_true rfl⟩) | (exact ⟨Nat.le_of_ble_eq_true rfl, Nat.le_of_ble_eq_true rfl⟩) | (intro hg; first | (simp; first | done | fail) | (simp at hg ⊢; exact hg) | (simp at hg; exact hg) | exact hg))); (conv => whnf))
      | ((with_reducible apply And.intro) <;> (intro hb; (try simp at hb); (try (exfalso; first | omega | (simp_all; first | done | fail))); (try (conv => whnf))))
    (try (any_goals (refine Side.mk ⟨rfl, ?_, ?_⟩ <;> first | (simp [maxLen]; done) | (simp [maxLen]; omega))))
    exact .nils (by rw [ofN, hm]; rfl)
  | true =>
    have c84t : PCall Try.prog 84 [.d (encMap m)] fun x => x = .d (.bool true) := by have := c84 m; rwa [hm] at this
    have hm6 := map_len6 hm
    refine PCall.intro Try.tabOk Try.f50 _ Try.func50 rfl (by decide) rfl fun z => ?_
    repeat' first
      | (with_reducible refine AW.seq ?_)
      | ((with_reducible refine AW.region Try.tabOk ?_); (conv => whnf))
      | ((with_reducible refine AW.block ?_))
    (try (any_goals (refine Side.mk ⟨rfl, ?_, ?_⟩ <;> first | (simp [maxLen]; done) | (simp [maxLen]; omega))))
    refine AW.grow 5 42 6 rfl rfl ?_
    refine AW.loopS (X := Nat × Nat) [2, 1] [0] (fun x => [(6, .d (.int .i64 (x.1 : Int))), (5, .own 1 (x.2 + 1) 6)]) (fun x => [(1, .row 42 6 (((m.take x.1).filter fun o => decide (o.kind = k) && sndN m o).map encObj) (x.2 + 1))]) (fun _ => 2) (fun x => x.1 ≤ m.length) (fun x => m.length - x.1) (0, 0) (Nat.zero_le _) (fun _ _ => rfl) (by refine ⟨rfl, rfl, rfl, ?_, ?_⟩ <;> repeat' (first | exact trivial | exact OLe.refl _ | exact AV.le_refl _ | apply And.intro)) ?_
    intro ⟨i, v⟩ hi
    dsimp only at hi ⊢
    have hll : ((m.take i).filter fun o => decide (o.kind = k) && sndN m o).length ≤ 1000000 := by
      have := List.length_filter_le (fun o => decide (o.kind = k) && sndN m o) (m.take i)
      rw [List.length_take] at this; omega
    generalize hA : ((m.take i).filter fun o => decide (o.kind = k) && sndN m o) = A at hll
    repeat' first
      | (with_reducible refine AW.seq ?_)
      | ((with_reducible refine AW.region Try.tabOk ?_); (conv => whnf))
      | ((with_reducible refine AW.draw Try.tabOk Try.mixed ?_ ?_); (focus rfl); (conv => whnf))
      | ((with_reducible refine AW.ret ?_); (conv => whnf))
      | ((with_reducible refine AW.block ?_))
      | ((with_reducible refine AW.exit ?_); (conv => whnf))
      | ((with_reducible refine AW.skip ?_); (conv => whnf))
      | ((with_reducible refine AW.cond ?_); (conv => whnf))
      | ((with_reducible refine Own2.data ?_); (conv => whnf))
      | ((with_reducible refine ACall.id ?_); (refine PCall.call (by first | exact c84t | exact c27 _ hm _) rfl ?_); (intro x hx; first | subst hx | (obtain ⟨l_, rfl, hl_⟩ := hx.out)); (conv => whnf))
      | (refine ⟨_, ⟨rfl, rfl⟩, ?_⟩; (conv => whnf))
      | ((with_reducible apply Or.inl); apply Exists.intro; apply And.intro; (focus (intro hg; (conv => whnf); (repeat' first | (with_reducible exact ⟨rfl, rfl⟩) | ((with_reducible refine Own2.data ?_); (conv => whnf)) | (refine ⟨true, _, rfl, ?_⟩; (conv => whnf)) | (refine ⟨false, .nilp, rfl, ?_⟩; (conv => whnf)) | (refine ⟨_, _, by first | exact c84t | exact c27 _ hm _, ?_⟩; (conv => whnf)) | ((with_reducible apply Or.inl); (refine ⟨rfl, rfl, ?_⟩); (conv => whnf)) | ((with_reducible apply Or.inl); (with_reducible apply And.intro); (focus (first | assumption | (simp only [rng]; omega) | (simp [rng, IntKind.bits]; omega))); (conv => whnf)) | (refine ⟨by first | omega | (simp; omega) | (simp at hg ⊢; omega) | (refine ⟨rfl, ?_, ?_⟩ <;> first | (simp [maxLen]; done) | (simp [maxLen]; omega)) | (exact hg) | (intro hq_; rw [hg]; exact hq_) | (simp_all; first | done | fail), ?_⟩; (conv => whnf)) | ((with_reducible refine ACall.id ?_); (refine PCall.call (by first | exact c84t | exact c27 _ hm _) rfl ?_); (intro x hx; first | subst hx | (obtain ⟨l_, rfl, hl_⟩ := hx.out)); (conv => whnf)) | ((with_reducible apply Or.inr); (with_reducible exact ⟨rfl, rfl⟩)) | ((with_reducible apply Or.inr); (with_reducible apply And.intro) <;> (intro hb_; first | (cases hb_; done) | (conv => whnf))) | (intro hlen; (conv => whnf))); done)); (conv => whnf))
      | (apply Exists.intro; apply And.intro; (focus (first | (intro hg; (conv => whnf)) | (conv => whnf)); (repeat' first | (with_reducible exact ⟨rfl, rfl⟩) | ((with_reducible refine Own2.data ?_); (conv => whnf)) | (refine ⟨true, _, rfl, ?_⟩; (conv => whnf)) | (refine ⟨false, .nilp, rfl, ?_⟩; (conv => whnf)) | (refine ⟨_, _, by first | exact c84t | exact c27 _ hm _, ?_⟩; (conv => whnf)) | ((with_reducible apply Or.inl); (refine ⟨rfl, rfl, ?_⟩); (conv => whnf)) | ((with_reducible apply Or.inl); (with_reducible apply And.intro); (focus (first | assumption | (simp only [rng]; omega) | (simp [rng, IntKind.bits]; omega))); (conv => whnf)) | (refine ⟨by first | omega | (simp; omega) | (simp at hg ⊢; omega) | (refine ⟨rfl, ?_, ?_⟩ <;> first | (simp [maxLen]; done) | (simp [maxLen]; omega)) | (exact hg) | (intro hq_; rw [hg]; exact hq_) | (simp_all; first | done | fail), ?_⟩; (conv => whnf)) | ((with_reducible refine ACall.id ?_); (refine PCall.call (by first | exact c84t | exact c27 _ hm _) rfl ?_); (intro x hx; first | subst hx | (obtain ⟨l_, rfl, hl_⟩ := hx.out)); (conv => whnf)) | ((with_reducible apply Or.inr); (with_reducible exact ⟨rfl, rfl⟩)) | ((with_reducible apply Or.inr); (with_reducible apply And.intro) <;> (intro hb_; first | (cases hb_; done) | (conv => whnf))) | (intro hlen; (conv => whnf))); done); (conv => whnf))
      | ((with_reducible apply Or.inl); (with_reducible apply And.intro); (focus (first | assumption | (simp only [rng]; omega) | (simp [rng, IntKind.bits]; omega))); (conv => whnf))
      | ((with_reducible apply And.intro); (focus (first | omega | assumption | (exact True.intro) | (simp; omega) | (exact Nat.le_of_ble_eq_true rfl) | (exact ⟨rfl, Nat.le_of_ble_eq_true rfl⟩) | (exact ⟨Nat.le_of_ble_eq_true rfl, Nat.le_of_ble_eq_true rfl⟩) | (intro hg; first | (simp; first | done | fail) | (simp at hg ⊢; exact hg) | (simp at hg; exact hg) | exact hg))); (conv => whnf))
      | ((with_reducible apply And.intro) <;> (intro hb; (try simp at hb); (try (exfalso; first | omega | (simp_all; first | done | fail))); (try (conv => whnf))))
      | ((with_reducible refine And.intro (Side.out ?_) ?_); rotate_left; (conv => whnf); rotate_right)
    (try (any_goals (refine Side.mk ⟨rfl, ?_, ?_⟩ <;> first | (simp [maxLen]; done) | (simp [maxLen]; omega))))
    · have hit : i < m.length := by assumption
      have hb : (m[i]?.getD default).kind = k ∧ sndN m (m[i]?.getD default) = true := by assumption
      rw [← List.getD_eq_getElem?_getD] at hb
      have e : (m.take (i + 1)).filter (fun o => decide (o.kind = k) && sndN m o) = A ++ [m.getD i default] := by
        rw [filter_step hit, hA, decide_eq_true hb.1, hb.2]; rfl
      exact .mk (i + 1, v + 1) hit (by show m.length - (i + 1) < m.length - i; omega) ⟨rfl, rfl, rfl, ⟨ole_row (by rw [e, List.map_append]; rfl), OLe.refl _, trivial⟩, ⟨AV.le_refl _, AV.le_refl _, AV.le_refl _, AV.le_refl _, trivial⟩, rfl⟩
    · have hit : i < m.length := by assumption
      have hb : (m[i]?.getD default).kind = k → sndN m (m[i]?.getD default) = false := by assumption
      rw [← List.getD_eq_getElem?_getD] at hb
      have e : (m.take (i + 1)).filter (fun o => decide (o.kind = k) && sndN m o) = A := by
        rw [filter_step hit, hA]
        have : (decide ((m.getD i default).kind = k) && sndN m (m.getD i default)) = false := by
          by_cases h : (m.getD i default).kind = k
          · rw [hb h, Bool.and_false]
          · rw [decide_eq_false h, Bool.false_and]
        rw [this]; simp
      exact .mk (i + 1, v) hit (by show m.length - (i + 1) < m.length - i; omega) ⟨rfl, rfl, rfl, ⟨ole_row (by rw [e]), OLe.refl _, trivial⟩, ⟨AV.le_refl _, AV.le_refl _, AV.le_refl _, AV.le_refl _, trivial⟩, rfl⟩
    · have he : i = m.length := by omega
      subst he
      rw [List.take_length] at hA
      exact .row (by rw [ofN, hm, if_pos rfl, hA])
def hasN (L : List Obj) (id n : Str) : Bool := match L.find? fun o => decide (o.id = id) with
  | some o => decide (0 ≤ idx o.refs n)
  | none => false
theorem has_at {L : List Obj} {id n : Str} {i : Nat} (hi : i < L.length) (hw : ∀ k, k < i → (L.getD k default).id ≠ id) (h : (L.getD i default).id = id) : hasN L id n = decide (0 ≤ idx (L.getD i default).refs n) := by
  have : L.find? (fun o => decide (o.id = id)) = some (L.getD i default) := by
    rw [List.getD_eq_getElem?_getD, List.getElem?_eq_getElem hi, Option.getD_some, List.find?_eq_some_iff_getElem]
    refine ⟨?_, i, hi, rfl, fun j hj => ?_⟩
    · rw [List.getD_eq_getElem?_getD, List.getElem?_eq_getElem hi] at h
      exact decide_eq_true h
    · have := hw j hj
      rw [List.getD_eq_getElem?_getD, List.getElem?_eq_getElem (Nat.lt_trans hj hi), Option.getD_some] at this
      simpa using this
  rw [hasN, this]
theorem has_no {L : List Obj} {id n : Str} (hw : ∀ k, k < L.length → (L.getD k default).id ≠ id) : hasN L id n = false := by
  have : L.find? (fun o => decide (o.id = id)) = none := by
    rw [List.find?_eq_none]
    intro x hx
    obtain ⟨k, hk, rfl⟩ := List.mem_iff_getElem.1 hx
    have := hw k hk
    rw [List.getD_eq_getElem?_getD, List.getElem?_eq_getElem hk] at this
    simpa using this
  rw [hasN, this]
theorem c61 (L : List Obj) (id n : Str) : PCall Try.prog 61 [.d (encObjs L), .d (.str id), .d (.str n)] fun x => x = .d (.bool (hasN L id n)) := by
  refine PCall.intro Try.tabOk Try.f61 _ Try.func61 rfl (by decide) rfl fun z => ?_
  repeat' first
    | (with_reducible refine AW.seq ?_)
    | ((with_reducible refine AW.region Try.tabOk ?_); (conv => whnf))
    | ((with_reducible refine AW.block ?_))
  (try (any_goals (refine Side.mk ⟨rfl, ?_, ?_⟩ <;> first | (simp [maxLen]; done) | (simp [maxLen]; omega))))
  refine AW.loopS (X := Nat) [0, 1, 2] [] (fun i => [(7, .d (.int .i64 (i : Int)))]) (fun _ => []) (fun _ => 0) (fun i => i ≤ L.length ∧ ∀ k, k < i → (L.getD k default).id ≠ id) (fun i => L.length - i) 0 ⟨Nat.zero_le _, fun k h => absurd h (Nat.not_lt_zero k)⟩ (fun _ _ => rfl) (by refine ⟨rfl, rfl, rfl, ?_, ?_⟩ <;> repeat' (first | exact trivial | exact OLe.refl _ | exact AV.le_refl _ | apply And.intro)) ?_
  intro i ⟨hi, hw⟩
  repeat' first
    | (with_reducible refine AW.seq ?_)
    | ((with_reducible refine AW.region Try.tabOk ?_); (conv => whnf))
    | ((with_reducible refine AW.ret ?_); (conv => whnf))
    | ((with_reducible refine AW.block ?_))
    | ((with_reducible refine AW.exit ?_); (conv => whnf))
    | ((with_reducible refine AW.skip ?_); (conv => whnf))
    | ((with_reducible refine AW.cond ?_); (conv => whnf))
    | ((with_reducible refine ACall.id ?_); (refine PCall.call (by first | exact c31 _ _) rfl ?_); (intro x hx; first | subst hx | (obtain ⟨l_, rfl, hl_⟩ := hx.out)); (conv => whnf))
    | ((with_reducible apply Or.inl); (with_reducible apply And.intro); (focus (first | assumption | (simp only [rng]; omega) | (simp [rng, IntKind.bits]; omega))); (conv => whnf))
    | ((with_reducible apply And.intro); (focus (first | omega | assumption | (exact True.intro) | (simp; omega) | (exact Nat.le_of_ble_eq_true rfl) | (exact ⟨rfl, Nat.le_of_ble_eq_true rfl⟩) | (exact ⟨Nat.le_of_ble_eq_true rfl, Nat.le_of_ble_eq_true rfl⟩) | (intro hg; first | (simp; first | done | fail) | (simp at hg ⊢; exact hg) | (simp at hg; exact hg) | exact hg))); (conv => whnf))
    | ((with_reducible apply And.intro) <;> (intro hb; (try simp at hb); (try (exfalso; first | omega | (simp_all; first | done | fail))); (try (conv => whnf))))
    | (intro hlen; (conv => whnf))
  (try (any_goals (refine Side.mk ⟨rfl, ?_, ?_⟩ <;> first | (simp [maxLen]; done) | (simp [maxLen]; omega))))
  · have hit : i < L.length := by assumption
    rw [← List.getD_eq_getElem?_getD] at hb
    rw [has_at hit hw hb]; rfl
  · have hit : i < L.length := by assumption
    rw [← List.getD_eq_getElem?_getD] at hb
    exact .mk (i + 1) ⟨hit, upto_lt hw hb⟩ (by show L.length - (i + 1) < L.length - i; omega) (by refine ⟨rfl, rfl, rfl, ?_, ?_, rfl⟩ <;> repeat' (first | exact trivial | exact OLe.refl _ | exact AV.le_refl _ | apply And.intro))
  · have he : i = L.length := by omega
    subst he
    rw [has_no hw]
end Go.Proofs
end
section
/- Contracts: the reference's Allowed. -/
namespace Go.Proofs
open Go.Pm
set_option maxRecDepth 100000
set_option maxHeartbeats 4000000

def banB (a v b : Str) (o : Obj) : Bool := bif bif o.refs.getD 0 [] == a then o.refs.getD 1 [] == v else false then o.refs.getD 2 [] == b else false
def allowR (m : List Obj) (a v b : Str) : Bool := hasN (ofN m 2) a v && (hasN (ofN m 2) b v && !(ofN m 5).any (banB a v b))
theorem of_mem {m : List Obj} {k : Int} {o : Obj} (h : o ∈ ofN m k) : mapB m = true ∧ o ∈ m ∧ o.kind = k ∧ sndN m o = true := by
  unfold ofN at h
  split at h
  · rename_i hm
    rw [List.mem_filter, Bool.and_eq_true, decide_eq_true_eq] at h
    exact ⟨hm, h.1, h.2.1, h.2.2⟩
  · simp at h
theorem refs5 {m : List Obj} {i : Nat} (hi : i < (ofN m 5).length) : ((ofN m 5).getD (i : Int).toNat default).refs.length = 3 := by
  rw [Int.toNat_natCast, List.getD_eq_getElem?_getD, List.getElem?_eq_getElem hi]
  obtain ⟨hm, h1, h2, _⟩ := of_mem (List.getElem_mem hi)
  simp only [Option.getD_some]
  simp only [mapB, Bool.and_eq_true, List.all_eq_true] at hm
  have := hm.1.1 _ h1
  simp only [objB, Bool.and_eq_true] at this
  have h3 := this.1.1.2
  rw [countB, h2] at h3
  simp at h3
  exact h3.1
theorem allowR_false {m L : List Obj} {a v b : Str} (hL : L = ofN m 5) {i : Nat} (hi : i < L.length) (h : banB a v b (L.getD i default) = true) : allowR m a v b = false := by
  have : (ofN m 5).any (banB a v b) = true := by
    rw [List.any_eq_true]
    rw [List.getD_eq_getElem?_getD, List.getElem?_eq_getElem hi] at h
    exact ⟨L[i], by rw [← hL]; exact List.getElem_mem hi, h⟩
  rw [allowR, this]; simp
theorem allowR_true {m L : List Obj} {a v b : Str} (hL : L = ofN m 5) (h1 : hasN (ofN m 2) a v = true) (h2 : hasN (ofN m 2) b v = true) (hw : ∀ k, k < L.length → banB a v b (L.getD k default) = false) : allowR m a v b = true := by
  have : (ofN m 5).any (banB a v b) = false := by
    rw [List.any_eq_false]
    intro x hx
    rw [← hL] at hx
    obtain ⟨k, hk, rfl⟩ := List.mem_iff_getElem.1 hx
    have := hw k hk
    rw [List.getD_eq_getElem?_getD, List.getElem?_eq_getElem hk, Option.getD_some] at this
    rw [this]; simp
  rw [allowR, h1, h2, this]; rfl
theorem c25 (m : List Obj) (a v b : Str) : PCall Try.prog 25 [.d (encMap m), .d (.str a), .d (.str v), .d (.str b)] fun x => x = .d (.bool (allowR m a v b)) := by
  refine PCall.intro Try.tabOk Try.f25 _ Try.func25 rfl (by decide) rfl fun z => ?_
  repeat' first
    | (with_reducible refine AW.seq ?_)
    | ((with_reducible refine AW.region Try.tabOk ?_); (conv => whnf))
    | ((with_reducible refine AW.ret ?_); (conv => whnf))
    | ((with_reducible refine AW.block ?_))
    | ((with_reducible refine AW.skip ?_); (conv => whnf))
    | ((with_reducible refine AW.cond ?_); (conv => whnf))
    | ((with_reducible refine ACall.id ?_); (refine PCall.call (by first | exact c50 _ _ | exact c61 _ _ _) rfl ?_); (intro x hx; first | subst hx | (obtain ⟨l_, rfl, hl_⟩ := hx.out)); (conv => whnf))
    | ((with_reducible apply Or.inl); apply Exists.intro; apply And.intro; (focus (intro hg; (conv => whnf); (repeat' first | (with_reducible exact ⟨rfl, rfl⟩) | ((with_reducible refine Own2.data ?_); (conv => whnf)) | (refine ⟨true, _, rfl, ?_⟩; (conv => whnf)) | (refine ⟨false, .nilp, rfl, ?_⟩; (conv => whnf)) | (refine ⟨_, _, by first | exact c50 _ _ | exact c61 _ _ _, ?_⟩; (conv => whnf)) | ((with_reducible apply Or.inl); (refine ⟨rfl, rfl, ?_⟩); (conv => whnf)) | ((with_reducible apply Or.inl); (with_reducible apply And.intro); (focus (first | assumption | (simp only [rng]; omega) | (simp [rng, IntKind.bits]; omega))); (conv => whnf)) | (refine ⟨by first | omega | (simp; omega) | (simp at hg ⊢; omega) | (refine ⟨rfl, ?_, ?_⟩ <;> first | (simp [maxLen]; done) | (simp [maxLen]; omega)) | (exact hg) | (intro hq_; rw [hg]; exact hq_) | (simp_all; first | done | fail), ?_⟩; (conv => whnf)) | ((with_reducible refine ACall.id ?_); (refine PCall.call (by first | exact c50 _ _ | exact c61 _ _ _) rfl ?_); (intro x hx; first | subst hx | (obtain ⟨l_, rfl, hl_⟩ := hx.out)); (conv => whnf)) | ((with_reducible apply Or.inr); (with_reducible exact ⟨rfl, rfl⟩)) | ((with_reducible apply Or.inr); (with_reducible apply And.intro) <;> (intro hb_; first | (cases hb_; done) | (conv => whnf))) | (intro hlen; (conv => whnf))); done)); (conv => whnf))
    | ((with_reducible apply And.intro); (focus (first | omega | assumption | (exact True.intro) | (simp; omega) | (exact Nat.le_of_ble_eq_true rfl) | (exact ⟨rfl, Nat.le_of_ble_eq_true rfl⟩) | (exact ⟨Nat.le_of_ble_eq_true rfl, Nat.le_of_ble_eq_true rfl⟩) | (intro hg; first | (simp; first | done | fail) | (simp at hg ⊢; exact hg) | (simp at hg; exact hg) | exact hg))); (conv => whnf))
    | ((with_reducible apply And.intro) <;> (intro hb; (try simp at hb); (try (exfalso; first | omega | (simp_all; first | done | fail))); (try (conv => whnf))))
  (try (any_goals (refine Side.mk ⟨rfl, ?_, ?_⟩ <;> first | (simp [maxLen]; done) | (simp [maxLen]; omega))))
  · have hb : hasN (ofN m 2) a v = false ∨ hasN (ofN m 2) b v = false := by assumption
    have : allowR m a v b = false := by
      rcases hb with h | h
      · rw [allowR, h]; rfl
      · rw [allowR, h]; simp
    rw [this]
  have hab : hasN (ofN m 2) a v = true ∧ hasN (ofN m 2) b v = true := by assumption
  have h3 := fun i => refs5 (m := m) (i := i)
  obtain ⟨L, hL⟩ : ∃ L, L = ofN m 5 := ⟨_, rfl⟩
  rw [← hL] at h3 ⊢
  refine AW.loopS (X := Nat) [10, 1, 2, 3] [0] (fun i => [(11, .d (.int .i64 (i : Int)))]) (fun i => []) (fun _ => 1)
    (fun i => i ≤ L.length ∧ ∀ k, k < i → banB a v b (L.getD k default) = false) (fun i => L.length - i) 0 ⟨Nat.zero_le _, fun k h => absurd h (Nat.not_lt_zero k)⟩ (fun _ _ => rfl) (by refine ⟨rfl, rfl, rfl, ?_, ?_⟩ <;> repeat' (first | exact trivial | exact OLe.refl _ | exact AV.le_refl _ | apply And.intro)) ?_
  intro i ⟨hi, hw⟩
  have h3 := h3 i
  repeat' first
    | (with_reducible refine AW.seq ?_)
    | ((with_reducible refine AW.region Try.tabOk ?_); (conv => whnf))
    | ((with_reducible refine AW.ret ?_); (conv => whnf))
    | ((with_reducible refine AW.block ?_))
    | ((with_reducible refine AW.exit ?_); (conv => whnf))
    | ((with_reducible refine AW.skip ?_); (conv => whnf))
    | ((with_reducible refine AW.cond ?_); (conv => whnf))
    | ((with_reducible apply Or.inl); apply Exists.intro; apply And.intro; (focus (intro hg; (conv => whnf); (repeat' first | (with_reducible exact ⟨rfl, rfl⟩) | ((with_reducible refine Own2.data ?_); (conv => whnf)) | (refine ⟨true, _, rfl, ?_⟩; (conv => whnf)) | (refine ⟨false, .nilp, rfl, ?_⟩; (conv => whnf)) | (refine ⟨_, _, by first | fail, ?_⟩; (conv => whnf)) | ((with_reducible apply Or.inl); (refine ⟨rfl, rfl, ?_⟩); (conv => whnf)) | ((with_reducible apply Or.inl); (with_reducible apply And.intro); (focus (first | assumption | (simp only [rng]; omega) | (simp [rng, IntKind.bits]; omega))); (conv => whnf)) | (refine ⟨by first | omega | (simp; omega) | (simp at hg ⊢; omega) | (refine ⟨rfl, ?_, ?_⟩ <;> first | (simp [maxLen]; done) | (simp [maxLen]; omega)) | (exact hg) | (intro hq_; rw [hg]; exact hq_) | (simp_all; first | done | fail), ?_⟩; (conv => whnf)) | ((with_reducible refine ACall.id ?_); (refine PCall.call (by first | fail) rfl ?_); (intro x hx; first | subst hx | (obtain ⟨l_, rfl, hl_⟩ := hx.out)); (conv => whnf)) | ((with_reducible apply Or.inr); (with_reducible exact ⟨rfl, rfl⟩)) | ((with_reducible apply Or.inr); (with_reducible apply And.intro) <;> (intro hb_; first | (cases hb_; done) | (conv => whnf))) | (intro hlen; (conv => whnf))); done)); (conv => whnf))
    | ((with_reducible apply Or.inl); (with_reducible apply And.intro); (focus (first | assumption | (simp only [rng]; omega) | (simp [rng, IntKind.bits]; omega))); (conv => whnf))
    | ((with_reducible apply And.intro); (focus (first | omega | assumption | (exact True.intro) | (simp; omega) | (exact Nat.le_of_ble_eq_true rfl) | (exact ⟨rfl, Nat.le_of_ble_eq_true rfl⟩) | (exact ⟨Nat.le_of_ble_eq_true rfl, Nat.le_of_ble_eq_true rfl⟩) | (intro hg; first | (simp; first | done | fail) | (simp at hg ⊢; exact hg) | (simp at hg; exact hg) | exact hg))); (conv => whnf))
    | ((with_reducible apply And.intro) <;> (intro hb; (try simp at hb); (try (exfalso; first | omega | (simp_all; first | done | fail))); (try (conv => whnf))))
    | (intro hlen; (conv => whnf))
  (try (any_goals (refine Side.mk ⟨rfl, ?_, ?_⟩ <;> first | (simp [maxLen]; done) | (simp [maxLen]; omega))))
  · have hit : i < L.length := by assumption
    have : banB a v b (L.getD i default) = true := by
      simp only [← List.getD_eq_getElem?_getD] at hb
      simp only [banB, hb.1.1, hb.1.2, hb.2, beq_self_eq_true, cond_true]
    rw [allowR_false hL hit this]
  · have hit : i < L.length := by assumption
    have : banB a v b (L.getD i default) = false := by
      simp only [← List.getD_eq_getElem?_getD] at hb
      rw [← Bool.not_eq_true]
      intro h
      simp only [banB, Bool.cond_false_right, Bool.and_eq_true, beq_iff_eq] at h
      exact hb h.1.1 h.1.2 h.2
    exact .mk (i + 1) ⟨hit, upto_lt hw this⟩ (by show L.length - (i + 1) < L.length - i; omega) (by refine ⟨rfl, rfl, rfl, ?_, ?_, rfl⟩ <;> repeat' (first | exact trivial | exact OLe.refl _ | exact AV.le_refl _ | apply And.intro))
  · have he : i = L.length := by omega
    subst he
    rw [allowR_true hL hab.1 hab.2 hw]
end Go.Proofs
end
section
/- Arcs: plain laws. -/
namespace Go.Proofs
open Go.Pm
set_option maxRecDepth 100000

theorem addNew_mem {acc : List Arc} {a x : Arc} : x ∈ addNew acc a ↔ x ∈ acc ∨ x = a := by
  unfold addNew
  split
  · rename_i h
    constructor
    · exact .inl
    · rintro (h1 | rfl)
      · exact h1
      · exact h
  · simp
theorem foldNew_mem {l acc : List Arc} {x : Arc} : x ∈ l.foldl addNew acc ↔ x ∈ acc ∨ x ∈ l := by
  induction l generalizing acc with
  | nil => simp
  | cons a l ih => rw [List.foldl_cons, ih, addNew_mem, List.mem_cons, or_assoc]
theorem addNew_nodup {acc : List Arc} {a : Arc} (h : acc.Nodup) : (addNew acc a).Nodup := by
  unfold addNew
  split
  · exact h
  · rename_i hn
    rw [List.nodup_append]
    exact ⟨h, by simp, fun x hx y hy => by simp at hy; subst hy; rintro rfl; exact hn hx⟩
theorem foldNew_nodup {l acc : List Arc} (h : acc.Nodup) : (l.foldl addNew acc).Nodup := by
  induction l generalizing acc with
  | nil => exact h
  | cons a l ih => rw [List.foldl_cons]; exact ih (addNew_nodup h)
theorem arcsN_nodup (m : List Obj) : (arcsN m).Nodup := by
  unfold arcsN
  split
  · exact foldNew_nodup List.nodup_nil
  · exact List.nodup_nil
/-- The last with a property and an Id, where Ids are unique. -/
theorem lastBy_uniq {m : List Obj} (hm : mapB m = true) {p : Obj → Bool} {o : Obj} (ho : o ∈ m) (hp : p o = true) : lastBy p o.id m = some o := by
  have key : ∀ (l : List Obj), (∀ x ∈ l, x ∈ m) → ∀ (r : Option Obj), (r = some o ∨ o ∈ l) → l.foldl (fun r x => if p x && decide (x.id = o.id) then some x else r) r = some o := by
    intro l
    induction l with
    | nil => intro _ r h; rcases h with h | h; exact h; simp at h
    | cons x l ih =>
      intro hl r h
      rw [List.foldl_cons]
      refine ih (fun y hy => hl y (by simp [hy])) _ ?_
      by_cases hx : x.id = o.id
      · have := obj_inj hm (hl x (by simp)) ho hx
        subst this
        left; simp [hp]
      · rw [decide_eq_false hx, Bool.and_false, if_neg (by simp)]
        rcases h with h | h
        · exact .inl h
        · rcases List.mem_cons.1 h with h | h
          · subst h; exact absurd rfl hx
          · exact .inr h
  exact key m (fun x h => h) none (.inr ho)
theorem wayG_of {m : List Obj} (hm : mapB m = true) {o : Obj} (ho : o ∈ m) (hp : wayP m o = true) : wayG m m o.id = some o := lastBy_uniq hm ho hp
theorem wayR_of {m : List Obj} (hm : mapB m = true) {o : Obj} (ho : o ∈ m) (hp : wayP m o = true) : wayR m o.id = o.refs := by
  unfold wayR; rw [wayG_of hm ho hp]; rfl
theorem wayG_none {m : List Obj} (hm : mapB m = true) {o : Obj} (ho : o ∈ m) (hp : wayP m o = false) : wayG m m o.id = none := by
  cases h : wayG m m o.id with
  | none => rfl
  | some x =>
    obtain ⟨h1, h2, h3⟩ := lastBy_some h
    have := obj_inj hm h1 ho h3
    subst this
    rw [hp] at h2; cases h2
theorem nodeG_of {m : List Obj} (hm : mapB m = true) {o : Obj} (ho : o ∈ m) (hk : o.kind = 1) : nodeG m o.id = some o := lastBy_uniq hm ho (by simp [nodeP, hk])
theorem arcsW_mem {m : List Obj} (hm : mapB m = true) {o : Obj} (ho : o ∈ m) {x : Arc} : x ∈ arcsW m o ↔ wayP m o = true ∧ ∃ j, j + 1 < o.refs.length ∧ (x = arc1 m o.refs o.id j ∨ x = arc2 m o.refs o.id j) := by
  unfold arcsW
  by_cases hk : o.kind = 2
  · rw [if_pos hk]
    cases hp : wayP m o with
    | false =>
      have : wayR m o.id = [] := by unfold wayR; rw [wayG_none hm ho hp]; rfl
      rw [this]; simp
    | true =>
      rw [wayR_of hm ho hp]
      simp only [List.mem_flatMap, List.mem_range, arcsAt, List.mem_cons, List.not_mem_nil, or_false, true_and]
      constructor
      · rintro ⟨j, hj, h⟩; exact ⟨j, by omega, h⟩
      · rintro ⟨j, hj, h⟩; exact ⟨j, by omega, h⟩
  · rw [if_neg hk]
    constructor
    · intro h; simp at h
    · rintro ⟨h, _⟩
      simp only [wayP, Bool.and_eq_true, decide_eq_true_eq] at h
      exact absurd h.1 hk
theorem arc_mem {m : List Obj} (hm : mapB m = true) {x : Arc} : x ∈ arcsN m ↔ ∃ o ∈ m, wayP m o = true ∧ ∃ j, j + 1 < o.refs.length ∧ (x = arc1 m o.refs o.id j ∨ x = arc2 m o.refs o.id j) := by
  unfold arcsN
  rw [if_pos hm, nubA, foldNew_mem]
  simp only [List.not_mem_nil, false_or, arcsRaw, List.mem_flatMap]
  constructor
  · rintro ⟨o, ho, h⟩
    exact ⟨o, ho, (arcsW_mem hm ho).1 h⟩
  · rintro ⟨o, ho, h⟩
    exact ⟨o, ho, (arcsW_mem hm ho).2 h⟩
/-- The object that is found. -/
theorem idx_mem {m : List Obj} (hm : mapB m = true) {o : Obj} (ho : o ∈ m) : ∃ k : Nat, k < m.length ∧ m.getD k default = o ∧ idx (ids m) o.id = (k : Int) := by
  obtain ⟨k, hk, rfl⟩ := List.mem_iff_getElem.1 ho
  have e : m.getD k default = m[k] := by rw [List.getD_eq_getElem?_getD, List.getElem?_eq_getElem hk]; rfl
  refine ⟨k, hk, e, idx_found (by simpa [ids] using hk) ?_ fun j hj h => ?_⟩
  · rw [ids_getD, e]
  · rw [ids_getD] at h
    have := ids_inj hm (i := k) (j := j) hk (by omega) (by rw [e]; exact h)
    omega
theorem way_node {m : List Obj} {o : Obj} (hp : wayP m o = true) {j : Nat} (hj : j < o.refs.length) : ∃ x ∈ m, x.kind = 1 ∧ x.id = o.refs.getD j [] ∧ nodePt m (o.refs.getD j []) = (x.x, x.y) := by
  simp only [wayP, Bool.and_eq_true, List.all_eq_true] at hp
  have := hp.2 (o.refs.getD j []) (by rw [List.getD_eq_getElem?_getD, List.getElem?_eq_getElem hj]; exact List.getElem_mem hj)
  cases h : nodeG m (o.refs.getD j []) with
  | none => rw [h] at this; cases this
  | some x =>
    obtain ⟨h1, h2, h3⟩ := lastBy_some h
    refine ⟨x, h1, by simpa [nodeP] using h2, h3, ?_⟩
    unfold nodePt; rw [h]; rfl
theorem obj_valid {m : List Obj} (hm : mapB m = true) {o : Obj} (ho : o ∈ m) : objB o = true := by
  simp only [mapB, Bool.and_eq_true, List.all_eq_true] at hm
  exact hm.1.1 o ho
theorem node_grid {o : Obj} (h : objB o = true) (hk : o.kind = 1) : 0 ≤ o.x ∧ o.x < 1048576 ∧ 0 ≤ o.y ∧ o.y < 1048576 := by
  simp only [objB, Bool.and_eq_true] at h
  have := h.2
  rw [atB, if_pos hk, onGrid] at this
  simp only [Bool.and_eq_true, decide_eq_true_eq] at this
  omega
theorem rootI_spec {n : Int} (h : 0 ≤ n) : rootI n * rootI n ≤ n ∧ n < (rootI n + 1) * (rootI n + 1) ∧ 0 ≤ rootI n := by
  obtain ⟨k, rfl⟩ := Int.eq_ofNat_of_zero_le h
  unfold rootI
  rw [if_neg (by omega), Int.toNat_natCast]
  have a1 := Nat.sqrt_le k
  have a2 := Nat.lt_succ_sqrt k
  refine ⟨by exact_mod_cast a1, by exact_mod_cast a2, by omega⟩
end Go.Proofs
end
section
/- The reference's Allowed is the network's: plain law. -/
namespace Go.Proofs
open Go.Pm
set_option maxRecDepth 100000

theorem findO_of {m : List Obj} (hm : mapB m = true) {o : Obj} (ho : o ∈ m) : findO m o.id = some o := by
  cases h : findO m o.id with
  | none =>
    unfold findO at h
    rw [List.find?_eq_none] at h
    exact absurd (h o ho) (by simp)
  | some x =>
    have h1 := List.mem_of_find?_eq_some h
    have h2 := List.find?_some h
    rw [obj_inj hm h1 ho (by simpa using h2)]
theorem findO_mem {m : List Obj} {id : Str} {x : Obj} (h : findO m id = some x) : x ∈ m ∧ x.id = id :=
  ⟨List.mem_of_find?_eq_some h, by simpa using List.find?_some h⟩
theorem nodeG_find {m : List Obj} (hm : mapB m = true) (id : Str) : (nodeG m id).isSome = match findO m id with
  | some x => decide (x.kind = 1)
  | none => false := by
  cases h : findO m id with
  | none =>
    cases h2 : nodeG m id with
    | none => rfl
    | some y =>
      obtain ⟨a1, a2, a3⟩ := lastBy_some h2
      have := findO_of hm a1
      rw [a3, h] at this; cases this
  | some x =>
    obtain ⟨b1, b2⟩ := findO_mem h
    subst b2
    by_cases hk : x.kind = 1
    · rw [nodeG_of hm b1 hk]; simp [hk]
    · cases h2 : nodeG m x.id with
      | none => simp [hk]
      | some y =>
        obtain ⟨a1, a2, a3⟩ := lastBy_some h2
        have := obj_inj hm a1 b1 a3
        subst this
        simp [nodeP] at a2
        exact absurd a2 hk
theorem sound_way {m : List Obj} (hm : mapB m = true) {o : Obj} (hk : o.kind = 2) : sound1 m o = wayP m o := by
  rw [Bool.eq_iff_iff]
  unfold sound1 soundF wayP
  rw [decide_eq_true hk, Bool.true_and, List.all_eq_true, List.all_eq_true]
  have key : ∀ i : Nat, okRef m o (fun _ => true) i = (nodeG m (o.refs.getD i [])).isSome := by
    intro i
    rw [nodeG_find hm, okRef]
    have : refKind o i = 1 := by rw [refKind, if_neg (by omega)]
    cases findO m (o.refs.getD i []) with
    | none => rfl
    | some x => simp [this]
  constructor
  · intro h r hr
    obtain ⟨i, hi, rfl⟩ := List.mem_iff_getElem.1 hr
    have := h i (List.mem_range.2 hi)
    rw [key, List.getD_eq_getElem?_getD, List.getElem?_eq_getElem hi] at this
    exact this
  · intro h i hi
    have hi := List.mem_range.1 hi
    rw [key, List.getD_eq_getElem?_getD, List.getElem?_eq_getElem hi]
    exact h _ (List.getElem_mem hi)
theorem idx_contains (L : List Str) (v : Str) : decide (0 ≤ idx L v) = L.contains v := by
  rw [Bool.eq_iff_iff, decide_eq_true_eq, List.contains_iff_mem]
  constructor
  · intro h
    unfold idx at h
    cases e : L.findIdx? (fun s => v == s) with
    | none => rw [e] at h; exact absurd h (by decide)
    | some i =>
      obtain ⟨hi, h1, _⟩ := List.findIdx?_eq_some_iff_getElem.1 e
      have : v = L[i] := by simpa using h1
      exact this ▸ List.getElem_mem hi
  · intro h
    obtain ⟨i, hi, rfl⟩ := List.mem_iff_getElem.1 h
    exact idx_nonneg hi (by rw [List.getD_eq_getElem?_getD, List.getElem?_eq_getElem hi]; rfl)
theorem of2_mem {m : List Obj} (hm : mapB m = true) {o : Obj} : o ∈ ofN m 2 ↔ o ∈ m ∧ wayP m o = true := by
  unfold ofN
  rw [if_pos hm, List.mem_filter, Bool.and_eq_true, decide_eq_true_eq]
  constructor
  · rintro ⟨h1, h2, h3⟩
    rw [sndN, if_neg (by omega), sound_way hm h2] at h3
    exact ⟨h1, h3⟩
  · rintro ⟨h1, h2⟩
    have hk : o.kind = 2 := by
      simp only [wayP, Bool.and_eq_true, decide_eq_true_eq] at h2; exact h2.1
    exact ⟨h1, hk, by rw [sndN, if_neg (by omega), sound_way hm hk]; exact h2⟩
theorem has_way {m : List Obj} (hm : mapB m = true) (id v : Str) : hasN (ofN m 2) id v = (wayR m id).contains v := by
  unfold hasN
  cases h : (ofN m 2).find? fun o => decide (o.id = id) with
  | some o =>
    obtain ⟨h1, h2⟩ := (of2_mem hm).1 (List.mem_of_find?_eq_some h)
    have h3 : o.id = id := by simpa using List.find?_some h
    subst h3
    rw [wayR_of hm h1 h2]
    exact idx_contains _ _
  | none =>
    rw [List.find?_eq_none] at h
    have : wayG m m id = none := by
      cases hw : wayG m m id with
      | none => rfl
      | some y =>
        obtain ⟨a1, a2, a3⟩ := lastBy_some hw
        exact absurd (h y ((of2_mem hm).2 ⟨a1, a2⟩)) (by simp [a3])
    unfold wayR; rw [this]; rfl
theorem has_ok {m : List Obj} (hm : mapB m = true) {id v : Str} (h : hasN (ofN m 2) id v = true) : ∃ o ∈ m, o.id = id ∧ o.kind = 2 ∧ sound1 m o = true ∧ v ∈ o.refs := by
  unfold hasN at h
  cases hf : (ofN m 2).find? fun o => decide (o.id = id) with
  | none => rw [hf] at h; cases h
  | some o =>
    rw [hf] at h
    have h : decide (0 ≤ idx o.refs v) = true := h
    obtain ⟨h1, h2⟩ := (of2_mem hm).1 (List.mem_of_find?_eq_some hf)
    have hk : o.kind = 2 := by
      simp only [wayP, Bool.and_eq_true, decide_eq_true_eq] at h2; exact h2.1
    rw [idx_contains, List.contains_iff_mem] at h
    exact ⟨o, h1, by simpa using List.find?_some hf, hk, by rw [sound_way hm hk]; exact h2, h⟩
theorem ban_any {m : List Obj} (hm : mapB m = true) {a v b : Str} (ha : hasN (ofN m 2) a v = true) (hb : hasN (ofN m 2) b v = true) :
    (ofN m 5).any (banB a v b) = m.any fun o => decide (o.kind = 5) && decide (o.refs = [a, v, b]) := by
  rw [Bool.eq_iff_iff, List.any_eq_true, List.any_eq_true]
  constructor
  · rintro ⟨o, ho, hbn⟩
    obtain ⟨k, hk, rfl⟩ := List.mem_iff_getElem.1 ho
    have h3 := refs5 hk
    rw [Int.toNat_natCast, List.getD_eq_getElem?_getD, List.getElem?_eq_getElem hk, Option.getD_some] at h3
    obtain ⟨_, h1, h2, _⟩ := of_mem ho
    refine ⟨_, h1, ?_⟩
    rw [decide_eq_true h2, Bool.true_and, decide_eq_true_eq]
    generalize (ofN m 5)[k] = o at *
    simp only [banB, Bool.cond_false_right, Bool.and_eq_true, beq_iff_eq] at hbn
    obtain ⟨⟨e1, e2⟩, e3⟩ := hbn
    match hr : o.refs, h3 with
    | [x, y, z], _ =>
      rw [hr] at e1 e2 e3
      simp at e1 e2 e3
      rw [e1, e2, e3]
  · rintro ⟨o, ho, h⟩
    rw [Bool.and_eq_true, decide_eq_true_eq, decide_eq_true_eq] at h
    obtain ⟨hk, hr⟩ := h
    obtain ⟨x, hx, ix, kx, sx, vx⟩ := has_ok hm ha
    obtain ⟨y, hy, iy, ky, sy, vy⟩ := has_ok hm hb
    have hv : ∃ n, findO m v = some n ∧ n.kind = 1 ∧ sound1 m n = true := by
      have h1 := sound_way hm kx
      rw [sx] at h1
      have h1 := h1.symm
      simp only [wayP, Bool.and_eq_true, List.all_eq_true] at h1
      have h2 := h1.2 v vx
      rw [nodeG_find hm] at h2
      cases hf : findO m v with
      | none => rw [hf] at h2; cases h2
      | some n =>
        rw [hf] at h2
        have hn : n.kind = 1 := by simpa using h2
        refine ⟨n, rfl, hn, ?_⟩
        have hmem := (findO_mem hf).1
        obtain ⟨k, hk1, rfl⟩ := List.mem_iff_getElem.1 hmem
        have e : m.getD k default = m[k] := by rw [List.getD_eq_getElem?_getD, List.getElem?_eq_getElem hk1]; rfl
        rw [← e] at hn ⊢
        exact sound_nil _ _ (refs1 hm hk1 hn)
    obtain ⟨n, fn, kn, sn⟩ := hv
    refine ⟨o, ?_, ?_⟩
    · unfold ofN
      rw [if_pos hm, List.mem_filter, decide_eq_true hk, Bool.true_and]
      refine ⟨ho, ?_⟩
      rw [sndN, if_pos (.inr hk)]
      refine sound_true fun i hi => ?_
      rw [hr] at hi
      simp at hi
      have r0 : refKind o (0 : Nat) = 2 := by rw [refKind, if_pos (.inr ⟨hk, by decide⟩)]
      have r1 : refKind o (1 : Nat) = 1 := by rw [refKind, if_neg (by omega)]
      have r2 : refKind o (2 : Nat) = 2 := by rw [refKind, if_pos (.inr ⟨hk, by decide⟩)]
      have fx := findO_of hm hx
      have fy := findO_of hm hy
      rw [ix] at fx
      rw [iy] at fy
      match i, hi with
      | 0, _ => rw [okRef, hr]; simp only [List.getD_cons_zero, fx]; rw [r0, decide_eq_true kx, sx]; rfl
      | 1, _ => rw [okRef, hr]; simp only [List.getD_cons_succ, List.getD_cons_zero, fn]; rw [r1, decide_eq_true kn, sn]; rfl
      | 2, _ => rw [okRef, hr]; simp only [List.getD_cons_succ, List.getD_cons_zero, fy]; rw [r2, decide_eq_true ky, sy]; rfl
    · simp [banB, hr]
theorem allow_eq (m : List Obj) (a v b : Str) : allowR m a v b = allowN m a v b := by
  unfold allowR allowN
  cases hm : mapB m with
  | false => simp [ofN, hm, hasN]
  | true =>
    rw [Bool.true_and, ← has_way hm, ← has_way hm]
    cases ha : hasN (ofN m 2) a v with
    | false => rfl
    | true =>
      cases hb : hasN (ofN m 2) b v with
      | false => rfl
      | true => rw [ban_any hm ha hb]
end Go.Proofs
end
section
/- Law 16.2: allowed turns as the reference has them. -/
namespace Go.Proofs
open Go.Pm
set_option maxRecDepth 100000
set_option maxHeartbeats 4000000

theorem c4 (m : List Obj) (a v b : Str) : PCall Try.prog 4 [.d (encMap m), .d (.str a), .d (.str v), .d (.str b)] fun x => x = .d (.bool true) := by
  have h25 : PCall Try.prog 25 [.d (encMap m), .d (.str a), .d (.str v), .d (.str b)] fun x => x = .d (.bool (allowN m a v b)) := by
    have := c25 m a v b; rwa [allow_eq] at this
  refine PCall.intro Try.tabOk Try.f4 _ Try.func4 rfl (by decide) rfl fun z => ?_
  repeat' first
    | (with_reducible refine AW.seq ?_)
    | ((with_reducible refine AW.region Try.tabOk ?_); (conv => whnf))
    | ((with_reducible refine AW.draw Try.tabOk Try.mixed ?_ ?_); (focus rfl); (conv => whnf))
    | ((with_reducible refine AW.ret ?_); (conv => whnf))
    | ((with_reducible refine AW.skip ?_); (conv => whnf))
    | ((with_reducible refine AW.cond ?_); (conv => whnf))
    | ((with_reducible refine ACall.id ?_); (refine PCall.call (by first | exact c13 | exact c14 _ | exact c24 _ _ _ _ | exact h25) rfl ?_); (intro x hx; first | subst hx | (obtain ⟨l_, rfl, hl_⟩ := hx.out)); (conv => whnf))
    | (refine ⟨_, ⟨rfl, rfl⟩, ?_⟩; (conv => whnf))
    | ((with_reducible apply Or.inl); apply Exists.intro; apply And.intro; (focus (intro hg; (conv => whnf); (repeat' first | (with_reducible exact ⟨rfl, rfl⟩) | ((with_reducible refine Own2.data ?_); (conv => whnf)) | (refine ⟨true, _, rfl, ?_⟩; (conv => whnf)) | (refine ⟨false, .nilp, rfl, ?_⟩; (conv => whnf)) | (refine ⟨_, _, by first | exact c13 | exact c14 _ | exact c24 _ _ _ _ | exact h25, ?_⟩; (conv => whnf)) | ((with_reducible apply Or.inl); (refine ⟨rfl, rfl, ?_⟩); (conv => whnf)) | ((with_reducible apply Or.inl); (with_reducible apply And.intro); (focus (first | assumption | (simp only [rng]; omega) | (simp [rng, IntKind.bits]; omega))); (conv => whnf)) | (refine ⟨by first | omega | (simp; omega) | (simp at hg ⊢; omega) | (refine ⟨rfl, ?_, ?_⟩ <;> first | (simp [maxLen]; done) | (simp [maxLen]; omega)) | (exact hg) | (intro hq_; rw [hg]; exact hq_) | (simp_all; first | done | fail), ?_⟩; (conv => whnf)) | ((with_reducible refine ACall.id ?_); (refine PCall.call (by first | exact c13 | exact c14 _ | exact c24 _ _ _ _ | exact h25) rfl ?_); (intro x hx; first | subst hx | (obtain ⟨l_, rfl, hl_⟩ := hx.out)); (conv => whnf)) | ((with_reducible apply Or.inr); (with_reducible exact ⟨rfl, rfl⟩)) | ((with_reducible apply Or.inr); (with_reducible apply And.intro) <;> (intro hb_; first | (cases hb_; done) | (conv => whnf))) | (intro hlen; (conv => whnf))); done)); (conv => whnf))
    | (apply Exists.intro; apply And.intro; (focus (first | (intro hg; (conv => whnf)) | (conv => whnf)); (repeat' first | (with_reducible exact ⟨rfl, rfl⟩) | ((with_reducible refine Own2.data ?_); (conv => whnf)) | (refine ⟨true, _, rfl, ?_⟩; (conv => whnf)) | (refine ⟨false, .nilp, rfl, ?_⟩; (conv => whnf)) | (refine ⟨_, _, by first | exact c13 | exact c14 _ | exact c24 _ _ _ _ | exact h25, ?_⟩; (conv => whnf)) | ((with_reducible apply Or.inl); (refine ⟨rfl, rfl, ?_⟩); (conv => whnf)) | ((with_reducible apply Or.inl); (with_reducible apply And.intro); (focus (first | assumption | (simp only [rng]; omega) | (simp [rng, IntKind.bits]; omega))); (conv => whnf)) | (refine ⟨by first | omega | (simp; omega) | (simp at hg ⊢; omega) | (refine ⟨rfl, ?_, ?_⟩ <;> first | (simp [maxLen]; done) | (simp [maxLen]; omega)) | (exact hg) | (intro hq_; rw [hg]; exact hq_) | (simp_all; first | done | fail), ?_⟩; (conv => whnf)) | ((with_reducible refine ACall.id ?_); (refine PCall.call (by first | exact c13 | exact c14 _ | exact c24 _ _ _ _ | exact h25) rfl ?_); (intro x hx; first | subst hx | (obtain ⟨l_, rfl, hl_⟩ := hx.out)); (conv => whnf)) | ((with_reducible apply Or.inr); (with_reducible exact ⟨rfl, rfl⟩)) | ((with_reducible apply Or.inr); (with_reducible apply And.intro) <;> (intro hb_; first | (cases hb_; done) | (conv => whnf))) | (intro hlen; (conv => whnf))); done); (conv => whnf))
    | ((with_reducible apply And.intro); (focus (first | omega | assumption | (exact True.intro) | (simp; omega) | (exact Nat.le_of_ble_eq_true rfl) | (exact ⟨rfl, Nat.le_of_ble_eq_true rfl⟩) | (exact ⟨Nat.le_of_ble_eq_true rfl, Nat.le_of_ble_eq_true rfl⟩) | (intro hg; first | (simp; first | done | fail) | (simp at hg ⊢; exact hg) | (simp at hg; exact hg) | exact hg))); (conv => whnf))
    | ((with_reducible apply And.intro) <;> (intro hb; (try simp at hb); (try (exfalso; first | omega | (simp_all; first | done | fail))); (try (conv => whnf))))
  (try (any_goals (refine Side.mk ⟨rfl, ?_, ?_⟩ <;> first | (simp [maxLen]; done) | (simp [maxLen]; omega))))
  simp
end Go.Proofs
end
