/- What the functions of the program compute, each as a contract: the conditions stand in each statement. -/
import Derived.Test.YtajnbdjipmckpaaPmS1
import Derived.Laws.Externs
import Derived.Laws.DeepNot64
section
/- Contracts: prefixes, bytes in strings, kinds. -/
namespace Go.Proofs
open Go.Pm
set_option maxRecDepth 100000

theorem PCall.extern {P : Program} {f : FuncId} {fn : Func} {e : Array Value → Sem Value} {args : List AV} {R : AV → Prop} (hf : P.funcs[f]? = some fn) (hname : (fn.name == "runtime.NumGoroutine") = false)
    (hb : fn.body.isNone = true) (hn : Extern.findNext fn = none) (he : Extern.find fn = some e)
    (h : ∀ (μ : Mu) (w : World) (vs : List Value), vs.length = args.length → (∀ (i : Nat) (c : AV) (v : Value), args[i]? = some c → vs[i]? = some v → ARel 0 μ w c v) → ∃ x v, AV.dry x = true ∧ R x ∧ (e vs.toArray).run P w = .ok v w ∧ ARel 0 μ w x v) : PCall P f args R := by
  refine ⟨fun μ w vs h1 h2 h3 => .inr ?_⟩
  obtain ⟨x, v, g1, g2, g3, g4⟩ := h μ w vs h2 h3
  exact ⟨v, w, by rw [run_callFunc_extern hf hname hb hn he, g3]; rfl, x, Heap.none, μ, v, rfl, ⟨g1, g2⟩, h1, .refl _ _ _ h1.hi, Nat.le_refl _, g4⟩

def byteIdx (s : Str) (c : UInt8) : Int := match s.findIdx? (· == c) with
  | some i => i
  | none => -1

theorem firstIdx_eq (s : Str) (c : UInt8) : firstIdx ⟨s.toArray⟩ c = byteIdx s c := by
  unfold firstIdx byteIdx
  have hsz : (⟨s.toArray⟩ : ByteArray).size = s.length := by simp [ByteArray.size]
  have hget : ∀ i, i < s.length → (⟨s.toArray⟩ : ByteArray)[i]! = s.getD i 0 := by
    intro i hi
    have : i < (⟨s.toArray⟩ : ByteArray).size := by rw [hsz]; exact hi
    rw [getElem!_pos _ i this]
    simp [List.getD_eq_getElem?_getD, hi]; rfl
  rw [hsz]
  cases h : s.findIdx? (· == c) with
  | some i =>
    obtain ⟨hi, h1, h2⟩ := List.findIdx?_eq_some_iff_getElem.1 h
    have : (List.range s.length).find? (fun i => (⟨s.toArray⟩ : ByteArray)[i]! == c) = some i := by
      rw [List.find?_range_eq_some]
      refine ⟨?_, by simpa using hi, fun j hj => ?_⟩
      · rw [hget i hi]; simpa [List.getD_eq_getElem?_getD, hi] using h1
      · rw [hget j (by omega)]
        have := h2 j hj
        have hj' : j < s.length := by omega
        simpa [List.getD_eq_getElem?_getD, hj'] using this
    rw [this]
  | none =>
    rw [List.findIdx?_eq_none_iff] at h
    have : (List.range s.length).find? (fun i => (⟨s.toArray⟩ : ByteArray)[i]! == c) = none := by
      rw [List.find?_range_eq_none]
      intro i hi
      rw [hget i hi]
      have := h s[i] (by simp)
      simpa [List.getD_eq_getElem?_getD, hi] using this
    rw [this]

theorem c126 (s : Str) (c : UInt8) : PCall Try.prog 126 [.d (.str s), .d (.int .u8 c.toNat)] fun x => x = .d (.int .i64 (byteIdx s c)) := by
  refine PCall.extern Try.func126 (by decide) rfl (by kernel_rfl) rfl fun μ w vs hl hr => ?_
  match vs, hl with
  | [a, b], _ =>
    have h0 := hr 0 _ a rfl rfl
    have h1 := hr 1 _ b rfl rfl
    cases h0; rename_i h0; cases h0
    cases h1; rename_i h1; cases h1
    refine ⟨_, _, rfl, rfl, run_indexByte_string _ _ _, ?_⟩
    have : (c.toNat : Int).toNat.toUInt8 = c := by simp
    rw [this, firstIdx_eq]
    exact .d _ _ (.int _ _)

theorem c122 (s : Str) (c : UInt8) : PCall Try.prog 122 [.d (.str s), .d (.int .u8 c.toNat)] fun x => x = .d (.int .i64 (byteIdx s c)) := by
  refine PCall.intro Try.tabOk Try.f122 _ Try.func122 rfl (by decide) rfl fun z => ?_
  repeat' first
    | (with_reducible refine AW.seq ?_)
    | ((with_reducible refine AW.region Try.tabOk ?_); (conv => whnf))
    | ((with_reducible refine AW.draw Try.tabOk Try.mixed ?_ ?_); (focus rfl); (conv => whnf))
    | ((with_reducible refine AW.ret ?_); (conv => whnf))
    | ((with_reducible refine AW.block ?_))
    | (with_reducible refine AW.scope ?_)
    | ((with_reducible refine AW.label ?_); (conv => whnf))
    | ((with_reducible refine AW.exit ?_); (conv => whnf))
    | ((with_reducible refine AW.skip ?_); (conv => whnf))
    | ((with_reducible refine AW.cond ?_); (conv => whnf))
    | ((with_reducible refine Own2.data ?_); (conv => whnf))
    | ((with_reducible refine ACall.id ?_); (refine PCall.call (by first | exact c126 _ _) rfl ?_); (intro x hx; first | subst hx | (obtain ⟨l_, rfl, hl_⟩ := hx.out)); (conv => whnf))
    | ((with_reducible refine ACall.freeze rfl ?_); (conv => whnf))
    | (refine ⟨true, _, rfl, ?_⟩; (conv => whnf))
    | (refine ⟨false, .nilp, rfl, ?_⟩; (conv => whnf))
    | (refine ⟨_, _, by first | exact c126 _ _, ?_⟩; (conv => whnf))
    | ((with_reducible apply Or.inl); (refine ⟨rfl, rfl, ?_⟩); (conv => whnf))
    | (refine ⟨_, ⟨rfl, rfl⟩, ?_⟩; (conv => whnf))
    | (refine ⟨_, ⟨rfl, getM (by first | omega | (simp; omega))⟩, ?_⟩; (conv => whnf))
    | ((with_reducible apply Or.inl); apply Exists.intro; apply And.intro; (focus (intro hg; (conv => whnf); (repeat' first | (with_reducible exact ⟨rfl, rfl⟩) | ((with_reducible refine Own2.data ?_); (conv => whnf)) | (refine ⟨true, _, rfl, ?_⟩; (conv => whnf)) | (refine ⟨false, .nilp, rfl, ?_⟩; (conv => whnf)) | (refine ⟨_, _, by first | exact c126 _ _, ?_⟩; (conv => whnf)) | ((with_reducible apply Or.inl); (refine ⟨rfl, rfl, ?_⟩); (conv => whnf)) | ((with_reducible apply Or.inl); (with_reducible apply And.intro); (focus (simp only [rng]; omega)); (conv => whnf)) | (refine ⟨by first | omega | (simp at hg ⊢; omega) | (simp_all; first | done | fail), ?_⟩; (conv => whnf)) | ((with_reducible refine ACall.id ?_); (refine PCall.call (by first | exact c126 _ _) rfl ?_); (intro x hx; first | subst hx | (obtain ⟨l_, rfl, hl_⟩ := hx.out)); (conv => whnf)) | (intro hlen; (conv => whnf))); done)); (conv => whnf))
    | (apply Exists.intro; apply And.intro; (focus (first | (intro hg; (conv => whnf)) | (conv => whnf)); (repeat' first | (with_reducible exact ⟨rfl, rfl⟩) | ((with_reducible refine Own2.data ?_); (conv => whnf)) | (refine ⟨true, _, rfl, ?_⟩; (conv => whnf)) | (refine ⟨false, .nilp, rfl, ?_⟩; (conv => whnf)) | (refine ⟨_, _, by first | exact c126 _ _, ?_⟩; (conv => whnf)) | ((with_reducible apply Or.inl); (refine ⟨rfl, rfl, ?_⟩); (conv => whnf)) | ((with_reducible apply Or.inl); (with_reducible apply And.intro); (focus (simp only [rng]; omega)); (conv => whnf)) | (refine ⟨by first | omega | (simp at hg ⊢; omega) | (simp_all; first | done | fail), ?_⟩; (conv => whnf)) | ((with_reducible refine ACall.id ?_); (refine PCall.call (by first | exact c126 _ _) rfl ?_); (intro x hx; first | subst hx | (obtain ⟨l_, rfl, hl_⟩ := hx.out)); (conv => whnf)) | (intro hlen; (conv => whnf))); done); (conv => whnf))
    | ((with_reducible apply Or.inl); (with_reducible apply And.intro); (focus (simp only [rng]; omega)); (conv => whnf))
    | ((with_reducible apply Or.inr); (with_reducible apply And.intro) <;> (intro hb; (try simp at hb); (try (exfalso; first | omega | (simp_all; first | done | fail))); (try (conv => whnf))))
    | ((with_reducible apply And.intro); (focus (first | omega | (exact True.intro) | (simp; omega) | (exact Nat.le_of_ble_eq_true rfl) | (exact ⟨rfl, Nat.le_of_ble_eq_true rfl⟩) | (exact ⟨Nat.le_of_ble_eq_true rfl, Nat.le_of_ble_eq_true rfl⟩) | (intro hg; first | (simp; first | done | fail) | (simp at hg ⊢; exact hg) | (simp at hg; exact hg) | exact hg))); (conv => whnf))
    | ((with_reducible apply And.intro) <;> (intro hb; (try simp at hb); (try (exfalso; first | omega | (simp_all; first | done | fail))); (try (conv => whnf))))
    | (intro hlen; (conv => whnf))
    | ((with_reducible refine And.intro (Side.out ?_) ?_); rotate_left; (conv => whnf); rotate_right)
theorem c113 (s : Str) (c : UInt8) : PCall Try.prog 113 [.d (.str s), .d (.int .u8 c.toNat)] fun x => x = .d (.int .i64 (byteIdx s c)) := by
  refine PCall.intro Try.tabOk Try.f113 _ Try.func113 rfl (by decide) rfl fun z => ?_
  repeat' first
    | (with_reducible refine AW.seq ?_)
    | ((with_reducible refine AW.region Try.tabOk ?_); (conv => whnf))
    | ((with_reducible refine AW.draw Try.tabOk Try.mixed ?_ ?_); (focus rfl); (conv => whnf))
    | ((with_reducible refine AW.ret ?_); (conv => whnf))
    | ((with_reducible refine AW.block ?_))
    | (with_reducible refine AW.scope ?_)
    | ((with_reducible refine AW.label ?_); (conv => whnf))
    | ((with_reducible refine AW.exit ?_); (conv => whnf))
    | ((with_reducible refine AW.skip ?_); (conv => whnf))
    | ((with_reducible refine AW.cond ?_); (conv => whnf))
    | ((with_reducible refine Own2.data ?_); (conv => whnf))
    | ((with_reducible refine ACall.id ?_); (refine PCall.call (by first | exact c122 _ _) rfl ?_); (intro x hx; first | subst hx | (obtain ⟨l_, rfl, hl_⟩ := hx.out)); (conv => whnf))
    | ((with_reducible refine ACall.freeze rfl ?_); (conv => whnf))
    | (refine ⟨true, _, rfl, ?_⟩; (conv => whnf))
    | (refine ⟨false, .nilp, rfl, ?_⟩; (conv => whnf))
    | (refine ⟨_, _, by first | exact c122 _ _, ?_⟩; (conv => whnf))
    | ((with_reducible apply Or.inl); (refine ⟨rfl, rfl, ?_⟩); (conv => whnf))
    | (refine ⟨_, ⟨rfl, rfl⟩, ?_⟩; (conv => whnf))
    | (refine ⟨_, ⟨rfl, getM (by first | omega | (simp; omega))⟩, ?_⟩; (conv => whnf))
    | ((with_reducible apply Or.inl); apply Exists.intro; apply And.intro; (focus (intro hg; (conv => whnf); (repeat' first | (with_reducible exact ⟨rfl, rfl⟩) | ((with_reducible refine Own2.data ?_); (conv => whnf)) | (refine ⟨true, _, rfl, ?_⟩; (conv => whnf)) | (refine ⟨false, .nilp, rfl, ?_⟩; (conv => whnf)) | (refine ⟨_, _, by first | exact c122 _ _, ?_⟩; (conv => whnf)) | ((with_reducible apply Or.inl); (refine ⟨rfl, rfl, ?_⟩); (conv => whnf)) | ((with_reducible apply Or.inl); (with_reducible apply And.intro); (focus (simp only [rng]; omega)); (conv => whnf)) | (refine ⟨by first | omega | (simp at hg ⊢; omega) | (simp_all; first | done | fail), ?_⟩; (conv => whnf)) | ((with_reducible refine ACall.id ?_); (refine PCall.call (by first | exact c122 _ _) rfl ?_); (intro x hx; first | subst hx | (obtain ⟨l_, rfl, hl_⟩ := hx.out)); (conv => whnf)) | (intro hlen; (conv => whnf))); done)); (conv => whnf))
    | (apply Exists.intro; apply And.intro; (focus (first | (intro hg; (conv => whnf)) | (conv => whnf)); (repeat' first | (with_reducible exact ⟨rfl, rfl⟩) | ((with_reducible refine Own2.data ?_); (conv => whnf)) | (refine ⟨true, _, rfl, ?_⟩; (conv => whnf)) | (refine ⟨false, .nilp, rfl, ?_⟩; (conv => whnf)) | (refine ⟨_, _, by first | exact c122 _ _, ?_⟩; (conv => whnf)) | ((with_reducible apply Or.inl); (refine ⟨rfl, rfl, ?_⟩); (conv => whnf)) | ((with_reducible apply Or.inl); (with_reducible apply And.intro); (focus (simp only [rng]; omega)); (conv => whnf)) | (refine ⟨by first | omega | (simp at hg ⊢; omega) | (simp_all; first | done | fail), ?_⟩; (conv => whnf)) | ((with_reducible refine ACall.id ?_); (refine PCall.call (by first | exact c122 _ _) rfl ?_); (intro x hx; first | subst hx | (obtain ⟨l_, rfl, hl_⟩ := hx.out)); (conv => whnf)) | (intro hlen; (conv => whnf))); done); (conv => whnf))
    | ((with_reducible apply Or.inl); (with_reducible apply And.intro); (focus (simp only [rng]; omega)); (conv => whnf))
    | ((with_reducible apply Or.inr); (with_reducible apply And.intro) <;> (intro hb; (try simp at hb); (try (exfalso; first | omega | (simp_all; first | done | fail))); (try (conv => whnf))))
    | ((with_reducible apply And.intro); (focus (first | omega | (exact True.intro) | (simp; omega) | (exact Nat.le_of_ble_eq_true rfl) | (exact ⟨rfl, Nat.le_of_ble_eq_true rfl⟩) | (exact ⟨Nat.le_of_ble_eq_true rfl, Nat.le_of_ble_eq_true rfl⟩) | (intro hg; first | (simp; first | done | fail) | (simp at hg ⊢; exact hg) | (simp at hg; exact hg) | exact hg))); (conv => whnf))
    | ((with_reducible apply And.intro) <;> (intro hb; (try simp at hb); (try (exfalso; first | omega | (simp_all; first | done | fail))); (try (conv => whnf))))
    | (intro hlen; (conv => whnf))
    | ((with_reducible refine And.intro (Side.out ?_) ?_); rotate_left; (conv => whnf); rotate_right)

theorem c127 (s p : Str) : PCall Try.prog 127 [.d (.str s), .d (.str p)] fun x => x = .d (.bool (p.isPrefixOf s)) := by
  refine PCall.intro Try.tabOk Try.f127 _ Try.func127 rfl (by decide) rfl fun z => ?_
  repeat' first
    | (with_reducible refine AW.seq ?_)
    | ((with_reducible refine AW.region Try.tabOk ?_); (conv => whnf))
    | ((with_reducible refine AW.draw Try.tabOk Try.mixed ?_ ?_); (focus rfl); (conv => whnf))
    | ((with_reducible refine AW.ret ?_); (conv => whnf))
    | ((with_reducible refine AW.block ?_))
    | (with_reducible refine AW.scope ?_)
    | ((with_reducible refine AW.label ?_); (conv => whnf))
    | ((with_reducible refine AW.exit ?_); (conv => whnf))
    | ((with_reducible refine AW.skip ?_); (conv => whnf))
    | ((with_reducible refine AW.cond ?_); (conv => whnf))
    | ((with_reducible refine Own2.data ?_); (conv => whnf))
    | ((with_reducible refine ACall.id ?_); (refine PCall.call (by first | fail) rfl ?_); (intro x hx; first | subst hx | (obtain ⟨l_, rfl, hl_⟩ := hx.out)); (conv => whnf))
    | ((with_reducible refine ACall.freeze rfl ?_); (conv => whnf))
    | (refine ⟨true, _, rfl, ?_⟩; (conv => whnf))
    | (refine ⟨false, .nilp, rfl, ?_⟩; (conv => whnf))
    | (refine ⟨_, _, by first | fail, ?_⟩; (conv => whnf))
    | ((with_reducible apply Or.inl); (refine ⟨rfl, rfl, ?_⟩); (conv => whnf))
    | (refine ⟨_, ⟨rfl, rfl⟩, ?_⟩; (conv => whnf))
    | (refine ⟨_, ⟨rfl, getM (by first | omega | (simp; omega))⟩, ?_⟩; (conv => whnf))
    | ((with_reducible apply Or.inl); apply Exists.intro; apply And.intro; (focus (intro hg; (conv => whnf); (repeat' first | (with_reducible exact ⟨rfl, rfl⟩) | ((with_reducible refine Own2.data ?_); (conv => whnf)) | (refine ⟨true, _, rfl, ?_⟩; (conv => whnf)) | (refine ⟨false, .nilp, rfl, ?_⟩; (conv => whnf)) | (refine ⟨_, _, by first | fail, ?_⟩; (conv => whnf)) | ((with_reducible apply Or.inl); (refine ⟨rfl, rfl, ?_⟩); (conv => whnf)) | ((with_reducible apply Or.inl); (with_reducible apply And.intro); (focus (simp only [rng]; omega)); (conv => whnf)) | (refine ⟨by first | omega | (simp at hg ⊢; omega) | (simp_all; first | done | fail), ?_⟩; (conv => whnf)) | ((with_reducible refine ACall.id ?_); (refine PCall.call (by first | fail) rfl ?_); (intro x hx; first | subst hx | (obtain ⟨l_, rfl, hl_⟩ := hx.out)); (conv => whnf)) | (intro hlen; (conv => whnf))); done)); (conv => whnf))
    | (apply Exists.intro; apply And.intro; (focus (first | (intro hg; (conv => whnf)) | (conv => whnf)); (repeat' first | (with_reducible exact ⟨rfl, rfl⟩) | ((with_reducible refine Own2.data ?_); (conv => whnf)) | (refine ⟨true, _, rfl, ?_⟩; (conv => whnf)) | (refine ⟨false, .nilp, rfl, ?_⟩; (conv => whnf)) | (refine ⟨_, _, by first | fail, ?_⟩; (conv => whnf)) | ((with_reducible apply Or.inl); (refine ⟨rfl, rfl, ?_⟩); (conv => whnf)) | ((with_reducible apply Or.inl); (with_reducible apply And.intro); (focus (simp only [rng]; omega)); (conv => whnf)) | (refine ⟨by first | omega | (simp at hg ⊢; omega) | (simp_all; first | done | fail), ?_⟩; (conv => whnf)) | ((with_reducible refine ACall.id ?_); (refine PCall.call (by first | fail) rfl ?_); (intro x hx; first | subst hx | (obtain ⟨l_, rfl, hl_⟩ := hx.out)); (conv => whnf)) | (intro hlen; (conv => whnf))); done); (conv => whnf))
    | ((with_reducible apply Or.inl); (with_reducible apply And.intro); (focus (simp only [rng]; omega)); (conv => whnf))
    | ((with_reducible apply Or.inr); (with_reducible apply And.intro) <;> (intro hb; (try simp at hb); (try (exfalso; first | omega | (simp_all; first | done | fail))); (try (conv => whnf))))
    | ((with_reducible apply And.intro); (focus (first | omega | (exact True.intro) | (simp; omega) | (exact Nat.le_of_ble_eq_true rfl) | (exact ⟨rfl, Nat.le_of_ble_eq_true rfl⟩) | (exact ⟨Nat.le_of_ble_eq_true rfl, Nat.le_of_ble_eq_true rfl⟩) | (intro hg; first | (simp; first | done | fail) | (simp at hg ⊢; exact hg) | (simp at hg; exact hg) | exact hg))); (conv => whnf))
    | ((with_reducible apply And.intro) <;> (intro hb; (try simp at hb); (try (exfalso; first | omega | (simp_all; first | done | fail))); (try (conv => whnf))))
    | (intro hlen; (conv => whnf))
    | ((with_reducible refine And.intro (Side.out ?_) ?_); rotate_left; (conv => whnf); rotate_right)
  congr 2
  rw [bif_and, Bool.eq_iff_iff]
  simp only [Int.toNat_natCast, Bool.and_eq_true, decide_eq_true_eq, beq_iff_eq, List.isPrefixOf_iff_prefix]
  constructor
  · rintro ⟨h1, h2⟩
    rw [List.prefix_iff_eq_take]; exact h2.symm
  · intro h
    exact ⟨by have := h.length_le; omega, (List.prefix_iff_eq_take.1 h).symm⟩
theorem c123 (s p : Str) : PCall Try.prog 123 [.d (.str s), .d (.str p)] fun x => x = .tup [.d (.str (if p.isPrefixOf s then s.drop p.length else s)), .d (.bool (p.isPrefixOf s))] := by
  refine PCall.intro Try.tabOk Try.f123 _ Try.func123 rfl (by decide) rfl fun z => ?_
  repeat' first
    | (with_reducible refine AW.seq ?_)
    | ((with_reducible refine AW.region Try.tabOk ?_); (conv => whnf))
    | ((with_reducible refine AW.draw Try.tabOk Try.mixed ?_ ?_); (focus rfl); (conv => whnf))
    | ((with_reducible refine AW.ret ?_); (conv => whnf))
    | ((with_reducible refine AW.block ?_))
    | (with_reducible refine AW.scope ?_)
    | ((with_reducible refine AW.label ?_); (conv => whnf))
    | ((with_reducible refine AW.exit ?_); (conv => whnf))
    | ((with_reducible refine AW.skip ?_); (conv => whnf))
    | ((with_reducible refine AW.cond ?_); (conv => whnf))
    | ((with_reducible refine Own2.data ?_); (conv => whnf))
    | ((with_reducible refine ACall.id ?_); (refine PCall.call (by first | exact c127 _ _) rfl ?_); (intro x hx; first | subst hx | (obtain ⟨l_, rfl, hl_⟩ := hx.out)); (conv => whnf))
    | ((with_reducible refine ACall.freeze rfl ?_); (conv => whnf))
    | (refine ⟨true, _, rfl, ?_⟩; (conv => whnf))
    | (refine ⟨false, .nilp, rfl, ?_⟩; (conv => whnf))
    | (refine ⟨_, _, by first | exact c127 _ _, ?_⟩; (conv => whnf))
    | ((with_reducible apply Or.inl); (refine ⟨rfl, rfl, ?_⟩); (conv => whnf))
    | (refine ⟨_, ⟨rfl, rfl⟩, ?_⟩; (conv => whnf))
    | (refine ⟨_, ⟨rfl, getM (by first | omega | (simp; omega))⟩, ?_⟩; (conv => whnf))
    | ((with_reducible apply Or.inl); apply Exists.intro; apply And.intro; (focus (intro hg; (conv => whnf); (repeat' first | (with_reducible exact ⟨rfl, rfl⟩) | ((with_reducible refine Own2.data ?_); (conv => whnf)) | (refine ⟨true, _, rfl, ?_⟩; (conv => whnf)) | (refine ⟨false, .nilp, rfl, ?_⟩; (conv => whnf)) | (refine ⟨_, _, by first | exact c127 _ _, ?_⟩; (conv => whnf)) | ((with_reducible apply Or.inl); (refine ⟨rfl, rfl, ?_⟩); (conv => whnf)) | ((with_reducible apply Or.inl); (with_reducible apply And.intro); (focus (simp only [rng]; omega)); (conv => whnf)) | (refine ⟨by first | omega | (simp at hg ⊢; omega) | (simp_all; first | done | fail), ?_⟩; (conv => whnf)) | ((with_reducible refine ACall.id ?_); (refine PCall.call (by first | exact c127 _ _) rfl ?_); (intro x hx; first | subst hx | (obtain ⟨l_, rfl, hl_⟩ := hx.out)); (conv => whnf)) | (intro hlen; (conv => whnf))); done)); (conv => whnf))
    | (apply Exists.intro; apply And.intro; (focus (first | (intro hg; (conv => whnf)) | (conv => whnf)); (repeat' first | (with_reducible exact ⟨rfl, rfl⟩) | ((with_reducible refine Own2.data ?_); (conv => whnf)) | (refine ⟨true, _, rfl, ?_⟩; (conv => whnf)) | (refine ⟨false, .nilp, rfl, ?_⟩; (conv => whnf)) | (refine ⟨_, _, by first | exact c127 _ _, ?_⟩; (conv => whnf)) | ((with_reducible apply Or.inl); (refine ⟨rfl, rfl, ?_⟩); (conv => whnf)) | ((with_reducible apply Or.inl); (with_reducible apply And.intro); (focus (simp only [rng]; omega)); (conv => whnf)) | (refine ⟨by first | omega | (simp at hg ⊢; omega) | (simp_all; first | done | fail), ?_⟩; (conv => whnf)) | ((with_reducible refine ACall.id ?_); (refine PCall.call (by first | exact c127 _ _) rfl ?_); (intro x hx; first | subst hx | (obtain ⟨l_, rfl, hl_⟩ := hx.out)); (conv => whnf)) | (intro hlen; (conv => whnf))); done); (conv => whnf))
    | ((with_reducible apply Or.inl); (with_reducible apply And.intro); (focus (simp only [rng]; omega)); (conv => whnf))
    | ((with_reducible apply Or.inr); (with_reducible apply And.intro) <;> (intro hb; (try simp at hb); (try (exfalso; first | omega | (simp_all; first | done | fail))); (try (conv => whnf))))
    | ((with_reducible apply And.intro); (focus (first | omega | (exact True.intro) | (simp; omega) | (exact Nat.le_of_ble_eq_true rfl) | (exact ⟨rfl, Nat.le_of_ble_eq_true rfl⟩) | (exact ⟨Nat.le_of_ble_eq_true rfl, Nat.le_of_ble_eq_true rfl⟩) | (intro hg; first | (simp; first | done | fail) | (simp at hg ⊢; exact hg) | (simp at hg; exact hg) | exact hg))); (conv => whnf))
    | ((with_reducible apply And.intro) <;> (intro hb; (try simp at hb); (try (exfalso; first | omega | (simp_all; first | done | fail))); (try (conv => whnf))))
    | (intro hlen; (conv => whnf))
    | ((with_reducible refine And.intro (Side.out ?_) ?_); rotate_left; (conv => whnf); rotate_right)
  · rw [hb]; rfl
  · have := hb.length_le; exact ⟨by omega⟩
  · rw [List.isPrefixOf_iff_prefix.2 hb]; rfl
theorem c114 (s p : Str) : PCall Try.prog 114 [.d (.str s), .d (.str p)] fun x => x = .tup [.d (.str (if p.isPrefixOf s then s.drop p.length else s)), .d (.bool (p.isPrefixOf s))] := by
  refine PCall.intro Try.tabOk Try.f114 _ Try.func114 rfl (by decide) rfl fun z => ?_
  repeat' first
    | (with_reducible refine AW.seq ?_)
    | ((with_reducible refine AW.region Try.tabOk ?_); (conv => whnf))
    | ((with_reducible refine AW.draw Try.tabOk Try.mixed ?_ ?_); (focus rfl); (conv => whnf))
    | ((with_reducible refine AW.ret ?_); (conv => whnf))
    | ((with_reducible refine AW.block ?_))
    | (with_reducible refine AW.scope ?_)
    | ((with_reducible refine AW.label ?_); (conv => whnf))
    | ((with_reducible refine AW.exit ?_); (conv => whnf))
    | ((with_reducible refine AW.skip ?_); (conv => whnf))
    | ((with_reducible refine AW.cond ?_); (conv => whnf))
    | ((with_reducible refine Own2.data ?_); (conv => whnf))
    | ((with_reducible refine ACall.id ?_); (refine PCall.call (by first | exact c123 _ _) rfl ?_); (intro x hx; first | subst hx | (obtain ⟨l_, rfl, hl_⟩ := hx.out)); (conv => whnf))
    | ((with_reducible refine ACall.freeze rfl ?_); (conv => whnf))
    | (refine ⟨true, _, rfl, ?_⟩; (conv => whnf))
    | (refine ⟨false, .nilp, rfl, ?_⟩; (conv => whnf))
    | (refine ⟨_, _, by first | exact c123 _ _, ?_⟩; (conv => whnf))
    | ((with_reducible apply Or.inl); (refine ⟨rfl, rfl, ?_⟩); (conv => whnf))
    | (refine ⟨_, ⟨rfl, rfl⟩, ?_⟩; (conv => whnf))
    | (refine ⟨_, ⟨rfl, getM (by first | omega | (simp; omega))⟩, ?_⟩; (conv => whnf))
    | ((with_reducible apply Or.inl); apply Exists.intro; apply And.intro; (focus (intro hg; (conv => whnf); (repeat' first | (with_reducible exact ⟨rfl, rfl⟩) | ((with_reducible refine Own2.data ?_); (conv => whnf)) | (refine ⟨true, _, rfl, ?_⟩; (conv => whnf)) | (refine ⟨false, .nilp, rfl, ?_⟩; (conv => whnf)) | (refine ⟨_, _, by first | exact c123 _ _, ?_⟩; (conv => whnf)) | ((with_reducible apply Or.inl); (refine ⟨rfl, rfl, ?_⟩); (conv => whnf)) | ((with_reducible apply Or.inl); (with_reducible apply And.intro); (focus (simp only [rng]; omega)); (conv => whnf)) | (refine ⟨by first | omega | (simp at hg ⊢; omega) | (simp_all; first | done | fail), ?_⟩; (conv => whnf)) | ((with_reducible refine ACall.id ?_); (refine PCall.call (by first | exact c123 _ _) rfl ?_); (intro x hx; first | subst hx | (obtain ⟨l_, rfl, hl_⟩ := hx.out)); (conv => whnf)) | (intro hlen; (conv => whnf))); done)); (conv => whnf))
    | (apply Exists.intro; apply And.intro; (focus (first | (intro hg; (conv => whnf)) | (conv => whnf)); (repeat' first | (with_reducible exact ⟨rfl, rfl⟩) | ((with_reducible refine Own2.data ?_); (conv => whnf)) | (refine ⟨true, _, rfl, ?_⟩; (conv => whnf)) | (refine ⟨false, .nilp, rfl, ?_⟩; (conv => whnf)) | (refine ⟨_, _, by first | exact c123 _ _, ?_⟩; (conv => whnf)) | ((with_reducible apply Or.inl); (refine ⟨rfl, rfl, ?_⟩); (conv => whnf)) | ((with_reducible apply Or.inl); (with_reducible apply And.intro); (focus (simp only [rng]; omega)); (conv => whnf)) | (refine ⟨by first | omega | (simp at hg ⊢; omega) | (simp_all; first | done | fail), ?_⟩; (conv => whnf)) | ((with_reducible refine ACall.id ?_); (refine PCall.call (by first | exact c123 _ _) rfl ?_); (intro x hx; first | subst hx | (obtain ⟨l_, rfl, hl_⟩ := hx.out)); (conv => whnf)) | (intro hlen; (conv => whnf))); done); (conv => whnf))
    | ((with_reducible apply Or.inl); (with_reducible apply And.intro); (focus (simp only [rng]; omega)); (conv => whnf))
    | ((with_reducible apply Or.inr); (with_reducible apply And.intro) <;> (intro hb; (try simp at hb); (try (exfalso; first | omega | (simp_all; first | done | fail))); (try (conv => whnf))))
    | ((with_reducible apply And.intro); (focus (first | omega | (exact True.intro) | (simp; omega) | (exact Nat.le_of_ble_eq_true rfl) | (exact ⟨rfl, Nat.le_of_ble_eq_true rfl⟩) | (exact ⟨Nat.le_of_ble_eq_true rfl, Nat.le_of_ble_eq_true rfl⟩) | (intro hg; first | (simp; first | done | fail) | (simp at hg ⊢; exact hg) | (simp at hg; exact hg) | exact hg))); (conv => whnf))
    | ((with_reducible apply And.intro) <;> (intro hb; (try simp at hb); (try (exfalso; first | omega | (simp_all; first | done | fail))); (try (conv => whnf))))
    | (intro hlen; (conv => whnf))
    | ((with_reducible refine And.intro (Side.out ?_) ?_); rotate_left; (conv => whnf); rotate_right)

def kindWord (n : Int) : Str := if n = 1 then [110, 111, 100, 101] else if n = 2 then [119, 97, 121] else if n = 3 then [97, 114, 101, 97] else if n = 4 then [114, 111, 117, 116, 101] else if n = 5 then [116, 117, 114, 110] else []
def kindLeast (n : Int) : Int := if n = 2 then 2 else if n = 3 then 3 else if n = 4 then 1 else if n = 5 then 3 else 0
def onGrid (x y : Int) : Bool := decide (0 ≤ x) && decide (x < 1048576) && decide (0 ≤ y) && decide (y < 1048576)
theorem c93 (n : Int) : PCall Try.prog 93 [.d (.int .i64 n)] fun x => x = .d (.str (kindWord n)) := by
  refine PCall.intro Try.tabOk Try.f93 _ Try.func93 rfl (by decide) rfl fun z => ?_
  repeat' first
    | (with_reducible refine AW.seq ?_)
    | ((with_reducible refine AW.region Try.tabOk ?_); (conv => whnf))
    | ((with_reducible refine AW.draw Try.tabOk Try.mixed ?_ ?_); (focus rfl); (conv => whnf))
    | ((with_reducible refine AW.ret ?_); (conv => whnf))
    | ((with_reducible refine AW.block ?_))
    | (with_reducible refine AW.scope ?_)
    | ((with_reducible refine AW.label ?_); (conv => whnf))
    | ((with_reducible refine AW.exit ?_); (conv => whnf))
    | ((with_reducible refine AW.skip ?_); (conv => whnf))
    | ((with_reducible refine AW.cond ?_); (conv => whnf))
    | ((with_reducible refine Own2.data ?_); (conv => whnf))
    | ((with_reducible refine ACall.id ?_); (refine PCall.call (by first | fail) rfl ?_); (intro x hx; first | subst hx | (obtain ⟨l_, rfl, hl_⟩ := hx.out)); (conv => whnf))
    | ((with_reducible refine ACall.freeze rfl ?_); (conv => whnf))
    | (refine ⟨true, _, rfl, ?_⟩; (conv => whnf))
    | (refine ⟨false, .nilp, rfl, ?_⟩; (conv => whnf))
    | (refine ⟨_, _, by first | fail, ?_⟩; (conv => whnf))
    | ((with_reducible apply Or.inl); (refine ⟨rfl, rfl, ?_⟩); (conv => whnf))
    | (refine ⟨_, ⟨rfl, rfl⟩, ?_⟩; (conv => whnf))
    | (refine ⟨_, ⟨rfl, getM (by first | omega | (simp; omega))⟩, ?_⟩; (conv => whnf))
    | ((with_reducible apply Or.inl); apply Exists.intro; apply And.intro; (focus (intro hg; (conv => whnf); (repeat' first | (with_reducible exact ⟨rfl, rfl⟩) | ((with_reducible refine Own2.data ?_); (conv => whnf)) | (refine ⟨true, _, rfl, ?_⟩; (conv => whnf)) | (refine ⟨false, .nilp, rfl, ?_⟩; (conv => whnf)) | (refine ⟨_, _, by first | fail, ?_⟩; (conv => whnf)) | ((with_reducible apply Or.inl); (refine ⟨rfl, rfl, ?_⟩); (conv => whnf)) | ((with_reducible apply Or.inl); (with_reducible apply And.intro); (focus (simp only [rng]; omega)); (conv => whnf)) | (refine ⟨by first | omega | (simp at hg ⊢; omega) | (simp_all; first | done | fail), ?_⟩; (conv => whnf)) | ((with_reducible refine ACall.id ?_); (refine PCall.call (by first | fail) rfl ?_); (intro x hx; first | subst hx | (obtain ⟨l_, rfl, hl_⟩ := hx.out)); (conv => whnf)) | (intro hlen; (conv => whnf))); done)); (conv => whnf))
    | (apply Exists.intro; apply And.intro; (focus (first | (intro hg; (conv => whnf)) | (conv => whnf)); (repeat' first | (with_reducible exact ⟨rfl, rfl⟩) | ((with_reducible refine Own2.data ?_); (conv => whnf)) | (refine ⟨true, _, rfl, ?_⟩; (conv => whnf)) | (refine ⟨false, .nilp, rfl, ?_⟩; (conv => whnf)) | (refine ⟨_, _, by first | fail, ?_⟩; (conv => whnf)) | ((with_reducible apply Or.inl); (refine ⟨rfl, rfl, ?_⟩); (conv => whnf)) | ((with_reducible apply Or.inl); (with_reducible apply And.intro); (focus (simp only [rng]; omega)); (conv => whnf)) | (refine ⟨by first | omega | (simp at hg ⊢; omega) | (simp_all; first | done | fail), ?_⟩; (conv => whnf)) | ((with_reducible refine ACall.id ?_); (refine PCall.call (by first | fail) rfl ?_); (intro x hx; first | subst hx | (obtain ⟨l_, rfl, hl_⟩ := hx.out)); (conv => whnf)) | (intro hlen; (conv => whnf))); done); (conv => whnf))
    | ((with_reducible apply Or.inl); (with_reducible apply And.intro); (focus (simp only [rng]; omega)); (conv => whnf))
    | ((with_reducible apply Or.inr); (with_reducible apply And.intro) <;> (intro hb; (try simp at hb); (try (exfalso; first | omega | (simp_all; first | done | fail))); (try (conv => whnf))))
    | ((with_reducible apply And.intro); (focus (first | omega | (exact True.intro) | (simp; omega) | (exact Nat.le_of_ble_eq_true rfl) | (exact ⟨rfl, Nat.le_of_ble_eq_true rfl⟩) | (exact ⟨Nat.le_of_ble_eq_true rfl, Nat.le_of_ble_eq_true rfl⟩) | (intro hg; first | (simp; first | done | fail) | (simp at hg ⊢; exact hg) | (simp at hg; exact hg) | exact hg))); (conv => whnf))
    | ((with_reducible apply And.intro) <;> (intro hb; (try simp at hb); (try (exfalso; first | omega | (simp_all; first | done | fail))); (try (conv => whnf))))
    | (intro hlen; (conv => whnf))
    | ((with_reducible refine And.intro (Side.out ?_) ?_); rotate_left; (conv => whnf); rotate_right)
  · have : kindWord n = [] := by unfold kindWord; simp only [show n ≠ 1 by omega, show n ≠ 2 by omega, show n ≠ 3 by omega, show n ≠ 4 by omega, show n ≠ 5 by omega, if_false]
    rw [this]
  · exact ⟨by show 0 + n.toNat * 1 < 6; omega⟩
  · have : n = 0 ∨ n = 1 ∨ n = 2 ∨ n = 3 ∨ n = 4 ∨ n = 5 := by omega
    rcases this with rfl | rfl | rfl | rfl | rfl | rfl <;> rfl
theorem c94 (n : Int) (h : 0 ≤ n ∧ n ≤ 5) : PCall Try.prog 94 [.d (.int .i64 n)] fun x => x = .d (.int .i64 (kindLeast n)) := by
  refine PCall.intro Try.tabOk Try.f94 _ Try.func94 rfl (by decide) rfl fun z => ?_
  repeat' first
    | (with_reducible refine AW.seq ?_)
    | ((with_reducible refine AW.region Try.tabOk ?_); (conv => whnf))
    | ((with_reducible refine AW.draw Try.tabOk Try.mixed ?_ ?_); (focus rfl); (conv => whnf))
    | ((with_reducible refine AW.ret ?_); (conv => whnf))
    | ((with_reducible refine AW.block ?_))
    | (with_reducible refine AW.scope ?_)
    | ((with_reducible refine AW.label ?_); (conv => whnf))
    | ((with_reducible refine AW.exit ?_); (conv => whnf))
    | ((with_reducible refine AW.skip ?_); (conv => whnf))
    | ((with_reducible refine AW.cond ?_); (conv => whnf))
    | ((with_reducible refine Own2.data ?_); (conv => whnf))
    | ((with_reducible refine ACall.id ?_); (refine PCall.call (by first | fail) rfl ?_); (intro x hx; first | subst hx | (obtain ⟨l_, rfl, hl_⟩ := hx.out)); (conv => whnf))
    | ((with_reducible refine ACall.freeze rfl ?_); (conv => whnf))
    | (refine ⟨true, _, rfl, ?_⟩; (conv => whnf))
    | (refine ⟨false, .nilp, rfl, ?_⟩; (conv => whnf))
    | (refine ⟨_, _, by first | fail, ?_⟩; (conv => whnf))
    | ((with_reducible apply Or.inl); (refine ⟨rfl, rfl, ?_⟩); (conv => whnf))
    | (refine ⟨_, ⟨rfl, rfl⟩, ?_⟩; (conv => whnf))
    | (refine ⟨_, ⟨rfl, getM (by first | omega | (simp; omega))⟩, ?_⟩; (conv => whnf))
    | ((with_reducible apply Or.inl); apply Exists.intro; apply And.intro; (focus (intro hg; (conv => whnf); (repeat' first | (with_reducible exact ⟨rfl, rfl⟩) | ((with_reducible refine Own2.data ?_); (conv => whnf)) | (refine ⟨true, _, rfl, ?_⟩; (conv => whnf)) | (refine ⟨false, .nilp, rfl, ?_⟩; (conv => whnf)) | (refine ⟨_, _, by first | fail, ?_⟩; (conv => whnf)) | ((with_reducible apply Or.inl); (refine ⟨rfl, rfl, ?_⟩); (conv => whnf)) | ((with_reducible apply Or.inl); (with_reducible apply And.intro); (focus (simp only [rng]; omega)); (conv => whnf)) | (refine ⟨by first | omega | (simp at hg ⊢; omega) | (simp_all; first | done | fail), ?_⟩; (conv => whnf)) | ((with_reducible refine ACall.id ?_); (refine PCall.call (by first | fail) rfl ?_); (intro x hx; first | subst hx | (obtain ⟨l_, rfl, hl_⟩ := hx.out)); (conv => whnf)) | (intro hlen; (conv => whnf))); done)); (conv => whnf))
    | (apply Exists.intro; apply And.intro; (focus (first | (intro hg; (conv => whnf)) | (conv => whnf)); (repeat' first | (with_reducible exact ⟨rfl, rfl⟩) | ((with_reducible refine Own2.data ?_); (conv => whnf)) | (refine ⟨true, _, rfl, ?_⟩; (conv => whnf)) | (refine ⟨false, .nilp, rfl, ?_⟩; (conv => whnf)) | (refine ⟨_, _, by first | fail, ?_⟩; (conv => whnf)) | ((with_reducible apply Or.inl); (refine ⟨rfl, rfl, ?_⟩); (conv => whnf)) | ((with_reducible apply Or.inl); (with_reducible apply And.intro); (focus (simp only [rng]; omega)); (conv => whnf)) | (refine ⟨by first | omega | (simp at hg ⊢; omega) | (simp_all; first | done | fail), ?_⟩; (conv => whnf)) | ((with_reducible refine ACall.id ?_); (refine PCall.call (by first | fail) rfl ?_); (intro x hx; first | subst hx | (obtain ⟨l_, rfl, hl_⟩ := hx.out)); (conv => whnf)) | (intro hlen; (conv => whnf))); done); (conv => whnf))
    | ((with_reducible apply Or.inl); (with_reducible apply And.intro); (focus (simp only [rng]; omega)); (conv => whnf))
    | ((with_reducible apply Or.inr); (with_reducible apply And.intro) <;> (intro hb; (try simp at hb); (try (exfalso; first | omega | (simp_all; first | done | fail))); (try (conv => whnf))))
    | ((with_reducible apply And.intro); (focus (first | omega | (exact True.intro) | (simp; omega) | (exact Nat.le_of_ble_eq_true rfl) | (exact ⟨rfl, Nat.le_of_ble_eq_true rfl⟩) | (exact ⟨Nat.le_of_ble_eq_true rfl, Nat.le_of_ble_eq_true rfl⟩) | (intro hg; first | (simp; first | done | fail) | (simp at hg ⊢; exact hg) | (simp at hg; exact hg) | exact hg))); (conv => whnf))
    | ((with_reducible apply And.intro) <;> (intro hb; (try simp at hb); (try (exfalso; first | omega | (simp_all; first | done | fail))); (try (conv => whnf))))
    | (intro hlen; (conv => whnf))
    | ((with_reducible refine And.intro (Side.out ?_) ?_); rotate_left; (conv => whnf); rotate_right)
  have : n = 0 ∨ n = 1 ∨ n = 2 ∨ n = 3 ∨ n = 4 ∨ n = 5 := by omega
  rcases this with rfl | rfl | rfl | rfl | rfl | rfl <;> rfl
theorem c96 (x y : Int) : PCall Try.prog 96 [.d (.agg [.int .i64 x, .int .i64 y])] fun r => r = .d (.bool (onGrid x y)) := by
  refine PCall.intro Try.tabOk Try.f96 _ Try.func96 rfl (by decide) rfl fun z => ?_
  repeat' first
    | (with_reducible refine AW.seq ?_)
    | ((with_reducible refine AW.region Try.tabOk ?_); (conv => whnf))
    | ((with_reducible refine AW.draw Try.tabOk Try.mixed ?_ ?_); (focus rfl); (conv => whnf))
    | ((with_reducible refine AW.ret ?_); (conv => whnf))
    | ((with_reducible refine AW.block ?_))
    | (with_reducible refine AW.scope ?_)
    | ((with_reducible refine AW.label ?_); (conv => whnf))
    | ((with_reducible refine AW.exit ?_); (conv => whnf))
    | ((with_reducible refine AW.skip ?_); (conv => whnf))
    | ((with_reducible refine AW.cond ?_); (conv => whnf))
    | ((with_reducible refine Own2.data ?_); (conv => whnf))
    | ((with_reducible refine ACall.id ?_); (refine PCall.call (by first | fail) rfl ?_); (intro x hx; first | subst hx | (obtain ⟨l_, rfl, hl_⟩ := hx.out)); (conv => whnf))
    | ((with_reducible refine ACall.freeze rfl ?_); (conv => whnf))
    | (refine ⟨true, _, rfl, ?_⟩; (conv => whnf))
    | (refine ⟨false, .nilp, rfl, ?_⟩; (conv => whnf))
    | (refine ⟨_, _, by first | fail, ?_⟩; (conv => whnf))
    | ((with_reducible apply Or.inl); (refine ⟨rfl, rfl, ?_⟩); (conv => whnf))
    | (refine ⟨_, ⟨rfl, rfl⟩, ?_⟩; (conv => whnf))
    | (refine ⟨_, ⟨rfl, getM (by first | omega | (simp; omega))⟩, ?_⟩; (conv => whnf))
    | ((with_reducible apply Or.inl); apply Exists.intro; apply And.intro; (focus (intro hg; (conv => whnf); (repeat' first | (with_reducible exact ⟨rfl, rfl⟩) | ((with_reducible refine Own2.data ?_); (conv => whnf)) | (refine ⟨true, _, rfl, ?_⟩; (conv => whnf)) | (refine ⟨false, .nilp, rfl, ?_⟩; (conv => whnf)) | (refine ⟨_, _, by first | fail, ?_⟩; (conv => whnf)) | ((with_reducible apply Or.inl); (refine ⟨rfl, rfl, ?_⟩); (conv => whnf)) | ((with_reducible apply Or.inl); (with_reducible apply And.intro); (focus (simp only [rng]; omega)); (conv => whnf)) | (refine ⟨by first | omega | (simp at hg ⊢; omega) | (simp_all; first | done | fail), ?_⟩; (conv => whnf)) | ((with_reducible refine ACall.id ?_); (refine PCall.call (by first | fail) rfl ?_); (intro x hx; first | subst hx | (obtain ⟨l_, rfl, hl_⟩ := hx.out)); (conv => whnf)) | (intro hlen; (conv => whnf))); done)); (conv => whnf))
    | (apply Exists.intro; apply And.intro; (focus (first | (intro hg; (conv => whnf)) | (conv => whnf)); (repeat' first | (with_reducible exact ⟨rfl, rfl⟩) | ((with_reducible refine Own2.data ?_); (conv => whnf)) | (refine ⟨true, _, rfl, ?_⟩; (conv => whnf)) | (refine ⟨false, .nilp, rfl, ?_⟩; (conv => whnf)) | (refine ⟨_, _, by first | fail, ?_⟩; (conv => whnf)) | ((with_reducible apply Or.inl); (refine ⟨rfl, rfl, ?_⟩); (conv => whnf)) | ((with_reducible apply Or.inl); (with_reducible apply And.intro); (focus (simp only [rng]; omega)); (conv => whnf)) | (refine ⟨by first | omega | (simp at hg ⊢; omega) | (simp_all; first | done | fail), ?_⟩; (conv => whnf)) | ((with_reducible refine ACall.id ?_); (refine PCall.call (by first | fail) rfl ?_); (intro x hx; first | subst hx | (obtain ⟨l_, rfl, hl_⟩ := hx.out)); (conv => whnf)) | (intro hlen; (conv => whnf))); done); (conv => whnf))
    | ((with_reducible apply Or.inl); (with_reducible apply And.intro); (focus (simp only [rng]; omega)); (conv => whnf))
    | ((with_reducible apply Or.inr); (with_reducible apply And.intro) <;> (intro hb; (try simp at hb); (try (exfalso; first | omega | (simp_all; first | done | fail))); (try (conv => whnf))))
    | ((with_reducible apply And.intro); (focus (first | omega | (exact True.intro) | (simp; omega) | (exact Nat.le_of_ble_eq_true rfl) | (exact ⟨rfl, Nat.le_of_ble_eq_true rfl⟩) | (exact ⟨Nat.le_of_ble_eq_true rfl, Nat.le_of_ble_eq_true rfl⟩) | (intro hg; first | (simp; first | done | fail) | (simp at hg ⊢; exact hg) | (simp at hg; exact hg) | exact hg))); (conv => whnf))
    | ((with_reducible apply And.intro) <;> (intro hb; (try simp at hb); (try (exfalso; first | omega | (simp_all; first | done | fail))); (try (conv => whnf))))
    | (intro hlen; (conv => whnf))
    | ((with_reducible refine And.intro (Side.out ?_) ?_); rotate_left; (conv => whnf); rotate_right)
  simp only [bif_and, onGrid, ge_iff_le]

/-! ### The classes of bytes -/
def cls (n : Nat) : Nat := if 97 ≤ n ∧ n ≤ 122 ∨ 65 ≤ n ∧ n ≤ 90 then 3 else if 48 ≤ n ∧ n ≤ 57 then 4 else if n = 32 ∨ n = 9 ∨ n = 10 then 1
  else if n = 35 then 2 else if n = 95 then 5 else if n = 34 then 7
  else if [59, 44, 46, 58, 40, 41, 123, 125, 91, 93, 61, 60, 62, 47, 45].contains n then 6 else 0
def clsD (n : Nat) : D := .int .u8 (cls n : Int)
theorem c113n (s : Str) (n : Nat) (h : n < 256) : PCall Try.prog 113 [.d (.str s), .d (.int .u8 (n : Int))] fun x => x = .d (.int .i64 (byteIdx s (UInt8.ofNat n))) := by
  have := c113 s (UInt8.ofNat n)
  rwa [show (UInt8.ofNat n).toNat = n by simp; omega] at this
theorem byteIdx_nonneg (s : Str) (c : UInt8) : (0 ≤ byteIdx s c) ↔ s.contains c = true := by
  unfold byteIdx
  cases h : s.findIdx? (· == c) with
  | some i =>
    obtain ⟨hi, h1, h2⟩ := List.findIdx?_eq_some_iff_getElem.1 h
    have : s.contains c = true := by
      rw [List.contains_iff_mem]
      have := eq_of_beq h1
      rw [← this]; exact List.getElem_mem hi
    have hm : c ∈ s := by simpa using this
    simp [hm]
  | none =>
    rw [List.findIdx?_eq_none_iff] at h
    have : s.contains c = false := by
      rw [Bool.eq_false_iff]
      intro hc
      rw [List.contains_iff_mem] at hc
      have := h c hc
      simp at this
    have hm : ¬ c ∈ s := by simpa using this
    simp [hm]
def cls0 (n : Nat) : Nat := if 97 ≤ n ∧ n ≤ 122 ∨ 65 ≤ n ∧ n ≤ 90 then 3 else if 48 ≤ n ∧ n ≤ 57 then 4 else if ([32, 9, 10] : Str).contains (UInt8.ofNat n) then 1
  else if ([59, 44, 46, 58, 40, 41, 123, 125, 91, 93, 61, 60, 62, 47, 45] : Str).contains (UInt8.ofNat n) then 6 else 0
def cls0D (n : Nat) : D := .int .u8 (cls0 n : Int)
def clsF (i : Nat) (j : Nat) : D := cond (Nat.blt j i) (cls0D j) (.int .u8 0)
theorem clsF_step {i : Nat} {x : D} (hx : cls0D i = x) (j : Nat) (k : Nat) (hk : k = i) : cond (Nat.beq j k) x (clsF i j) = clsF (i + 1) j := by
  subst hk hx
  unfold clsF
  by_cases h : j = k
  · subst h
    have : Nat.blt j (j + 1) = true := Nat.ble_eq_true_of_le (Nat.le_refl _)
    simp [this]
  · have h0 : Nat.beq j k = false := by rw [Bool.eq_false_iff]; intro hc; exact h (Nat.eq_of_beq_eq_true hc)
    rw [h0]
    by_cases hl : j < k
    · rw [show Nat.blt j k = true from Nat.ble_eq_true_of_le hl, show Nat.blt j (k + 1) = true from Nat.ble_eq_true_of_le (by omega)]; rfl
    · have e1 : Nat.blt j k = false := by rw [Bool.eq_false_iff]; intro hc; exact hl (Nat.le_of_ble_eq_true hc)
      have e2 : Nat.blt j (k + 1) = false := by rw [Bool.eq_false_iff]; intro hc; have : j + 1 ≤ k + 1 := Nat.le_of_ble_eq_true hc; omega
      rw [e1, e2]; rfl
theorem clsF_stay {i : Nat} (hx : cls0D i = .int .u8 0) (j : Nat) : clsF i j = clsF (i + 1) j := by
  rw [← clsF_step hx j i rfl]
  by_cases h : j = i
  · subst h
    have : Nat.blt j j = false := by rw [Bool.eq_false_iff]; intro hc; have : j + 1 ≤ j := Nat.le_of_ble_eq_true hc; omega
    simp [clsF, this]
  · have h0 : Nat.beq j i = false := by rw [Bool.eq_false_iff]; intro hc; exact h (Nat.eq_of_beq_eq_true hc)
    rw [h0]; rfl
theorem c102 : PCall Try.prog 102 [] fun x => x = .d (.agg (tabl 256 clsD)) := by
  refine PCall.intro Try.tabOk Try.f102 _ Try.func102 rfl (by decide) rfl fun z => ?_
  repeat' first
    | (with_reducible refine AW.seq ?_)
    | ((with_reducible refine AW.region Try.tabOk ?_); (conv => whnf))
    | ((with_reducible refine AW.draw Try.tabOk Try.mixed ?_ ?_); (focus rfl); (conv => whnf))
    | ((with_reducible refine AW.ret ?_); (conv => whnf))
    | ((with_reducible refine AW.block ?_))
    | (with_reducible refine AW.scope ?_)
    | ((with_reducible refine AW.label ?_); (conv => whnf))
    | ((with_reducible refine AW.exit ?_); (conv => whnf))
    | ((with_reducible refine AW.skip ?_); (conv => whnf))
    | ((with_reducible refine AW.cond ?_); (conv => whnf))
    | ((with_reducible refine Own2.data ?_); (conv => whnf))
    | ((with_reducible refine ACall.id ?_); (refine PCall.call (by first | exact c113 _ _) rfl ?_); (intro x hx; first | subst hx | (obtain ⟨l_, rfl, hl_⟩ := hx.out)); (conv => whnf))
    | ((with_reducible refine ACall.freeze rfl ?_); (conv => whnf))
    | (refine ⟨true, _, rfl, ?_⟩; (conv => whnf))
    | (refine ⟨false, .nilp, rfl, ?_⟩; (conv => whnf))
    | (refine ⟨_, _, by first | exact c113 _ _, ?_⟩; (conv => whnf))
    | ((with_reducible apply Or.inl); (refine ⟨rfl, rfl, ?_⟩); (conv => whnf))
    | (refine ⟨_, ⟨rfl, rfl⟩, ?_⟩; (conv => whnf))
    | (refine ⟨_, ⟨rfl, getM (by first | omega | (simp; omega))⟩, ?_⟩; (conv => whnf))
    | ((with_reducible apply Or.inl); apply Exists.intro; apply And.intro; (focus (intro hg; (conv => whnf); (repeat' first | (with_reducible exact ⟨rfl, rfl⟩) | ((with_reducible refine Own2.data ?_); (conv => whnf)) | (refine ⟨true, _, rfl, ?_⟩; (conv => whnf)) | (refine ⟨false, .nilp, rfl, ?_⟩; (conv => whnf)) | (refine ⟨_, _, by first | exact c113 _ _, ?_⟩; (conv => whnf)) | ((with_reducible apply Or.inl); (refine ⟨rfl, rfl, ?_⟩); (conv => whnf)) | ((with_reducible apply Or.inl); (with_reducible apply And.intro); (focus (simp only [rng]; omega)); (conv => whnf)) | (refine ⟨by first | omega | (simp at hg ⊢; omega) | (simp_all; first | done | fail), ?_⟩; (conv => whnf)) | ((with_reducible refine ACall.id ?_); (refine PCall.call (by first | exact c113 _ _) rfl ?_); (intro x hx; first | subst hx | (obtain ⟨l_, rfl, hl_⟩ := hx.out)); (conv => whnf)) | (intro hlen; (conv => whnf))); done)); (conv => whnf))
    | (apply Exists.intro; apply And.intro; (focus (first | (intro hg; (conv => whnf)) | (conv => whnf)); (repeat' first | (with_reducible exact ⟨rfl, rfl⟩) | ((with_reducible refine Own2.data ?_); (conv => whnf)) | (refine ⟨true, _, rfl, ?_⟩; (conv => whnf)) | (refine ⟨false, .nilp, rfl, ?_⟩; (conv => whnf)) | (refine ⟨_, _, by first | exact c113 _ _, ?_⟩; (conv => whnf)) | ((with_reducible apply Or.inl); (refine ⟨rfl, rfl, ?_⟩); (conv => whnf)) | ((with_reducible apply Or.inl); (with_reducible apply And.intro); (focus (simp only [rng]; omega)); (conv => whnf)) | (refine ⟨by first | omega | (simp at hg ⊢; omega) | (simp_all; first | done | fail), ?_⟩; (conv => whnf)) | ((with_reducible refine ACall.id ?_); (refine PCall.call (by first | exact c113 _ _) rfl ?_); (intro x hx; first | subst hx | (obtain ⟨l_, rfl, hl_⟩ := hx.out)); (conv => whnf)) | (intro hlen; (conv => whnf))); done); (conv => whnf))
    | ((with_reducible apply Or.inl); (with_reducible apply And.intro); (focus (simp only [rng]; omega)); (conv => whnf))
    | ((with_reducible apply Or.inr); (with_reducible apply And.intro) <;> (intro hb; (try simp at hb); (try (exfalso; first | omega | (simp_all; first | done | fail))); (try (conv => whnf))))
    | ((with_reducible apply And.intro); (focus (first | omega | (exact True.intro) | (simp; omega) | (exact Nat.le_of_ble_eq_true rfl) | (exact ⟨rfl, Nat.le_of_ble_eq_true rfl⟩) | (exact ⟨Nat.le_of_ble_eq_true rfl, Nat.le_of_ble_eq_true rfl⟩) | (intro hg; first | (simp; first | done | fail) | (simp at hg ⊢; exact hg) | (simp at hg; exact hg) | exact hg))); (conv => whnf))
    | ((with_reducible apply And.intro) <;> (intro hb; (try simp at hb); (try (exfalso; first | omega | (simp_all; first | done | fail))); (try (conv => whnf))))
    | (intro hlen; (conv => whnf))
    | ((with_reducible refine And.intro (Side.out ?_) ?_); rotate_left; (conv => whnf); rotate_right)
  refine AW.loopX (X := Nat) (fun i => ⟨[(0, .ptr 0 0), (1, .ptr 1 0), (4, .d (.int .i64 (i : Int)))], ⟨[(1, .dvar 256 (clsF i) 136), (0, .dvar 256 (fun _ => .int .u8 0) 136)], 2⟩, none, z⟩)
    (fun i => i ≤ 256) (fun i => 256 - i) 0 (Nat.zero_le _) ⟨rfl, rfl, rfl, ⟨OLe.dvar fun j hj => ?_, OLe.dvar fun j hj => ?_, trivial⟩, ⟨AV.le_refl _, AV.le_refl _, AV.le_refl _, trivial⟩⟩ ?_
  · have hj : j < 256 := hj
    show (List.replicate 256 (D.int .u8 0)).getD j .nilp = clsF 0 j
    rw [List.getD_eq_getElem?_getD, List.getElem?_replicate, if_pos hj]; rfl
  · have hj : j < 256 := hj
    show (List.replicate 256 (D.int .u8 0)).getD j .nilp = _
    rw [List.getD_eq_getElem?_getD, List.getElem?_replicate, if_pos hj]; rfl
  intro i hi
  repeat' first
    | (with_reducible refine AW.seq ?_)
    | ((with_reducible refine AW.region Try.tabOk ?_); (conv => whnf))
    | ((with_reducible refine AW.draw Try.tabOk Try.mixed ?_ ?_); (focus rfl); (conv => whnf))
    | ((with_reducible refine AW.ret ?_); (conv => whnf))
    | ((with_reducible refine AW.block ?_))
    | (with_reducible refine AW.scope ?_)
    | ((with_reducible refine AW.label ?_); (conv => whnf))
    | ((with_reducible refine AW.exit ?_); (conv => whnf))
    | ((with_reducible refine AW.skip ?_); (conv => whnf))
    | ((with_reducible refine AW.cond ?_); (conv => whnf))
    | ((with_reducible refine Own2.data ?_); (conv => whnf))
    | ((with_reducible refine ACall.id ?_); (refine PCall.call (by first | exact c113n _ _ (by omega)) rfl ?_); (intro x hx; first | subst hx | (obtain ⟨l_, rfl, hl_⟩ := hx.out)); (conv => whnf))
    | ((with_reducible refine ACall.freeze rfl ?_); (conv => whnf))
    | (refine ⟨true, _, rfl, ?_⟩; (conv => whnf))
    | (refine ⟨false, .nilp, rfl, ?_⟩; (conv => whnf))
    | (refine ⟨_, _, by first | exact c113n _ _ (by omega), ?_⟩; (conv => whnf))
    | ((with_reducible apply Or.inl); (refine ⟨rfl, rfl, ?_⟩); (conv => whnf))
    | (refine ⟨_, ⟨rfl, rfl⟩, ?_⟩; (conv => whnf))
    | (refine ⟨_, ⟨rfl, getM (by first | omega | (simp; omega))⟩, ?_⟩; (conv => whnf))
    | ((with_reducible apply Or.inl); apply Exists.intro; apply And.intro; (focus (intro hg; (conv => whnf); (repeat' first | (with_reducible exact ⟨rfl, rfl⟩) | ((with_reducible refine Own2.data ?_); (conv => whnf)) | (refine ⟨true, _, rfl, ?_⟩; (conv => whnf)) | (refine ⟨false, .nilp, rfl, ?_⟩; (conv => whnf)) | (refine ⟨_, _, by first | exact c113n _ _ (by omega), ?_⟩; (conv => whnf)) | ((with_reducible apply Or.inl); (refine ⟨rfl, rfl, ?_⟩); (conv => whnf)) | ((with_reducible apply Or.inl); (with_reducible apply And.intro); (focus (simp only [rng]; omega)); (conv => whnf)) | (refine ⟨by first | omega | (simp at hg ⊢; omega) | (simp_all; first | done | fail), ?_⟩; (conv => whnf)) | ((with_reducible refine ACall.id ?_); (refine PCall.call (by first | exact c113n _ _ (by omega)) rfl ?_); (intro x hx; first | subst hx | (obtain ⟨l_, rfl, hl_⟩ := hx.out)); (conv => whnf)) | (intro hlen; (conv => whnf))); done)); (conv => whnf))
    | (apply Exists.intro; apply And.intro; (focus (first | (intro hg; (conv => whnf)) | (conv => whnf)); (repeat' first | (with_reducible exact ⟨rfl, rfl⟩) | ((with_reducible refine Own2.data ?_); (conv => whnf)) | (refine ⟨true, _, rfl, ?_⟩; (conv => whnf)) | (refine ⟨false, .nilp, rfl, ?_⟩; (conv => whnf)) | (refine ⟨_, _, by first | exact c113n _ _ (by omega), ?_⟩; (conv => whnf)) | ((with_reducible apply Or.inl); (refine ⟨rfl, rfl, ?_⟩); (conv => whnf)) | ((with_reducible apply Or.inl); (with_reducible apply And.intro); (focus (simp only [rng]; omega)); (conv => whnf)) | (refine ⟨by first | omega | (simp at hg ⊢; omega) | (simp_all; first | done | fail), ?_⟩; (conv => whnf)) | ((with_reducible refine ACall.id ?_); (refine PCall.call (by first | exact c113n _ _ (by omega)) rfl ?_); (intro x hx; first | subst hx | (obtain ⟨l_, rfl, hl_⟩ := hx.out)); (conv => whnf)) | (intro hlen; (conv => whnf))); done); (conv => whnf))
    | ((with_reducible apply Or.inl); (with_reducible apply And.intro); (focus (simp only [rng]; omega)); (conv => whnf))
    | ((with_reducible apply Or.inr); (with_reducible apply And.intro) <;> (intro hb; (try simp at hb); (try (exfalso; first | omega | (simp_all; first | done | fail))); (try (conv => whnf))))
    | ((with_reducible apply And.intro); (focus (first | omega | (exact True.intro) | (simp; omega) | (exact Nat.le_of_ble_eq_true rfl) | (exact ⟨rfl, Nat.le_of_ble_eq_true rfl⟩) | (exact ⟨Nat.le_of_ble_eq_true rfl, Nat.le_of_ble_eq_true rfl⟩) | (intro hg; first | (simp; first | done | fail) | (simp at hg ⊢; exact hg) | (simp at hg; exact hg) | exact hg))); (conv => whnf))
    | ((with_reducible apply And.intro) <;> (intro hb; (try simp at hb); (try (exfalso; first | omega | (simp_all; first | done | fail))); (try (conv => whnf))))
    | (intro hlen; (conv => whnf))
    | ((with_reducible refine And.intro (Side.out ?_) ?_); rotate_left; (conv => whnf); rotate_right)
  · exact .mk (i + 1) (by omega) (by show 256 - (i + 1) < 256 - i; omega) ⟨rfl, rfl, rfl, ⟨OLe.dvar fun j hj => clsF_step (by unfold cls0D cls0; rw [if_pos (by omega)]; rfl) j _ (by simp), OLe.refl _, trivial⟩, ⟨AV.le_refl _, AV.le_refl _, AV.le_refl _, trivial⟩⟩
  · exact .mk (i + 1) (by omega) (by show 256 - (i + 1) < 256 - i; omega) ⟨rfl, rfl, rfl, ⟨OLe.dvar fun j hj => clsF_step (by unfold cls0D cls0; rw [if_pos (by omega)]; rfl) j _ (by simp), OLe.refl _, trivial⟩, ⟨AV.le_refl _, AV.le_refl _, AV.le_refl _, trivial⟩⟩
  · exact .mk (i + 1) (by omega) (by show 256 - (i + 1) < 256 - i; omega) ⟨rfl, rfl, rfl, ⟨OLe.dvar fun j hj => clsF_step (by unfold cls0D cls0; rw [if_neg (by omega), if_pos (by omega)]; rfl) j _ (by simp), OLe.refl _, trivial⟩, ⟨AV.le_refl _, AV.le_refl _, AV.le_refl _, trivial⟩⟩
  · exact .mk (i + 1) (by omega) (by show 256 - (i + 1) < 256 - i; omega) ⟨rfl, rfl, rfl, ⟨OLe.dvar fun j hj => clsF_step (by unfold cls0D cls0; rw [if_neg (by omega), if_neg (by omega), if_pos ((byteIdx_nonneg _ _).1 hb)]; rfl) j _ (by simp), OLe.refl _, trivial⟩, ⟨AV.le_refl _, AV.le_refl _, AV.le_refl _, trivial⟩⟩
  · rename_i hb1
    exact .mk (i + 1) (by omega) (by show 256 - (i + 1) < 256 - i; omega) ⟨rfl, rfl, rfl, ⟨OLe.dvar fun j hj => clsF_step (by unfold cls0D cls0; rw [if_neg (by omega), if_neg (by omega), if_neg (fun h => by have := (byteIdx_nonneg _ _).2 h; omega), if_pos ((byteIdx_nonneg _ _).1 hb)]; rfl) j _ (by simp), OLe.refl _, trivial⟩, ⟨AV.le_refl _, AV.le_refl _, AV.le_refl _, trivial⟩⟩
  · rename_i hb1
    exact .mk (i + 1) (by omega) (by show 256 - (i + 1) < 256 - i; omega) ⟨rfl, rfl, rfl, ⟨OLe.dvar fun j hj => clsF_stay (by unfold cls0D cls0; rw [if_neg (by omega), if_neg (by omega), if_neg (fun h => by have := (byteIdx_nonneg _ _).2 h; omega), if_neg (fun h => by have := (byteIdx_nonneg _ _).2 h; omega)]; rfl) j, OLe.refl _, trivial⟩, ⟨AV.le_refl _, AV.le_refl _, AV.le_refl _, trivial⟩⟩
  all_goals (have he : i = 256 := by omega)
  all_goals subst he
  all_goals rfl

theorem cls_letter (n : Nat) : cls n = 3 ↔ (97 ≤ n ∧ n ≤ 122 ∨ 65 ≤ n ∧ n ≤ 90) := by
  unfold cls
  constructor
  · intro h
    split at h
    · assumption
    · repeat' split at h
      all_goals cases h
  · intro h; rw [if_pos h]
theorem cls_digit (n : Nat) : cls n = 4 ↔ (48 ≤ n ∧ n ≤ 57) := by
  unfold cls
  constructor
  · intro h
    split at h
    · cases h
    · split at h
      · assumption
      · repeat' split at h
        all_goals cases h
  · intro h; rw [if_neg (by omega), if_pos h]
theorem cls_under (n : Nat) : cls n = 5 ↔ n = 95 := by
  unfold cls
  constructor
  · intro h
    repeat' split at h
    all_goals first | assumption | cases h
  · intro h; subst h; rfl
theorem letter_iff (c : UInt8) : letter c = true ↔ cls c.toNat = 3 := by rw [cls_letter]; simp [letter]
theorem word_iff (c : UInt8) : word c = true ↔ (cls c.toNat = 3 ∨ cls c.toNat = 4 ∨ cls c.toNat = 5) := by
  rw [cls_letter, cls_digit, cls_under]; simp [word, letter, digit]; omega
theorem c74 (s : Str) : PCall Try.prog 74 [.d (.str s)] fun x => x = .d (.bool (nameB s)) := by
  refine PCall.intro Try.tabOk Try.f74 _ Try.func74 rfl (by decide) rfl fun z => ?_
  repeat' first
    | (with_reducible refine AW.seq ?_)
    | ((with_reducible refine AW.region Try.tabOk ?_); (conv => whnf))
    | ((with_reducible refine AW.draw Try.tabOk Try.mixed ?_ ?_); (focus rfl); (conv => whnf))
    | ((with_reducible refine AW.ret ?_); (conv => whnf))
    | ((with_reducible refine AW.block ?_))
    | (with_reducible refine AW.scope ?_)
    | ((with_reducible refine AW.label ?_); (conv => whnf))
    | ((with_reducible refine AW.exit ?_); (conv => whnf))
    | ((with_reducible refine AW.skip ?_); (conv => whnf))
    | ((with_reducible refine AW.cond ?_); (conv => whnf))
    | ((with_reducible refine Own2.data ?_); (conv => whnf))
    | ((with_reducible refine ACall.id ?_); (refine PCall.call (by first | exact c102) rfl ?_); (intro x hx; first | subst hx | (obtain ⟨l_, rfl, hl_⟩ := hx.out)); (conv => whnf))
    | ((with_reducible refine ACall.freeze rfl ?_); (conv => whnf))
    | (refine ⟨true, _, rfl, ?_⟩; (conv => whnf))
    | (refine ⟨false, .nilp, rfl, ?_⟩; (conv => whnf))
    | (refine ⟨_, _, by first | exact c102, ?_⟩; (conv => whnf))
    | ((with_reducible apply Or.inl); (refine ⟨rfl, rfl, ?_⟩); (conv => whnf))
    | (refine ⟨_, ⟨rfl, rfl⟩, ?_⟩; (conv => whnf))
    | (refine ⟨_, ⟨rfl, getM (by first | omega | (simp; omega))⟩, ?_⟩; (conv => whnf))
    | ((with_reducible apply Or.inl); apply Exists.intro; apply And.intro; (focus (intro hg; (conv => whnf); (repeat' first | (with_reducible exact ⟨rfl, rfl⟩) | ((with_reducible refine Own2.data ?_); (conv => whnf)) | (refine ⟨true, _, rfl, ?_⟩; (conv => whnf)) | (refine ⟨false, .nilp, rfl, ?_⟩; (conv => whnf)) | (refine ⟨_, _, by first | exact c102, ?_⟩; (conv => whnf)) | ((with_reducible apply Or.inl); (refine ⟨rfl, rfl, ?_⟩); (conv => whnf)) | ((with_reducible apply Or.inl); (with_reducible apply And.intro); (focus (simp only [rng]; omega)); (conv => whnf)) | (refine ⟨by first | omega | (simp at hg ⊢; omega) | (simp_all; first | done | fail), ?_⟩; (conv => whnf)) | ((with_reducible refine ACall.id ?_); (refine PCall.call (by first | exact c102) rfl ?_); (intro x hx; first | subst hx | (obtain ⟨l_, rfl, hl_⟩ := hx.out)); (conv => whnf)) | (intro hlen; (conv => whnf))); done)); (conv => whnf))
    | (apply Exists.intro; apply And.intro; (focus (first | (intro hg; (conv => whnf)) | (conv => whnf)); (repeat' first | (with_reducible exact ⟨rfl, rfl⟩) | ((with_reducible refine Own2.data ?_); (conv => whnf)) | (refine ⟨true, _, rfl, ?_⟩; (conv => whnf)) | (refine ⟨false, .nilp, rfl, ?_⟩; (conv => whnf)) | (refine ⟨_, _, by first | exact c102, ?_⟩; (conv => whnf)) | ((with_reducible apply Or.inl); (refine ⟨rfl, rfl, ?_⟩); (conv => whnf)) | ((with_reducible apply Or.inl); (with_reducible apply And.intro); (focus (simp only [rng]; omega)); (conv => whnf)) | (refine ⟨by first | omega | (simp at hg ⊢; omega) | (simp_all; first | done | fail), ?_⟩; (conv => whnf)) | ((with_reducible refine ACall.id ?_); (refine PCall.call (by first | exact c102) rfl ?_); (intro x hx; first | subst hx | (obtain ⟨l_, rfl, hl_⟩ := hx.out)); (conv => whnf)) | (intro hlen; (conv => whnf))); done); (conv => whnf))
    | ((with_reducible apply Or.inl); (with_reducible apply And.intro); (focus (simp only [rng]; omega)); (conv => whnf))
    | ((with_reducible apply Or.inr); (with_reducible apply And.intro) <;> (intro hb; (try simp at hb); (try (exfalso; first | omega | (simp_all; first | done | fail))); (try (conv => whnf))))
    | ((with_reducible apply And.intro); (focus (first | omega | (exact True.intro) | (simp; omega) | (exact Nat.le_of_ble_eq_true rfl) | (exact ⟨rfl, Nat.le_of_ble_eq_true rfl⟩) | (exact ⟨Nat.le_of_ble_eq_true rfl, Nat.le_of_ble_eq_true rfl⟩) | (intro hg; first | (simp; first | done | fail) | (simp at hg ⊢; exact hg) | (simp at hg; exact hg) | exact hg))); (conv => whnf))
    | ((with_reducible apply And.intro) <;> (intro hb; (try simp at hb); (try (exfalso; first | omega | (simp_all; first | done | fail))); (try (conv => whnf))))
    | (intro hlen; (conv => whnf))
    | ((with_reducible refine And.intro (Side.out ?_) ?_); rotate_left; (conv => whnf); rotate_right)
  refine AW.loopX (X := Nat) (fun i => ⟨[(3, .ptr 0 0), (0, .d (.str s)), (8, .d (.int .i64 (s.length : Int))), (9, .d (.int .i64 (i : Int)))], ⟨[(0, .dvar 256 clsD 136)], 1⟩, none, z⟩)
    (fun i => i ≤ s.length ∧ ∀ j, j < i → word (s.getD j 0) = true ∧ (j = 0 → letter (s.getD 0 0) = true)) (fun i => s.length - i) 0 ⟨by omega, fun j h => by omega⟩
    ⟨rfl, rfl, rfl, ⟨OLe.dvar fun j hj => ?_, trivial⟩, ⟨AV.le_refl _, AV.le_refl _, AV.le_refl _, AV.le_refl _, trivial⟩⟩ ?_
  · have hj : j < 256 := hj
    have h1 : Nat.ble 0 j = true := Nat.ble_eq_true_of_le (Nat.zero_le _)
    have h2 : Nat.blt j (0 + 256) = true := Nat.ble_eq_true_of_le (by omega)
    show cond (Nat.ble 0 j && Nat.blt j (0 + 256)) ((tabl 256 clsD).getD (j - 0) .nilp) _ = _
    rw [h1, h2]
    exact tabl_getD _ _ _ _ hj
  intro i ⟨hi, hw⟩
  have hc := (s.getD i 0).toNat_lt
  have hc2 : (s.getD (i : Int).toNat 0).toNat < 256 := hc
  repeat' first
    | (with_reducible refine AW.seq ?_)
    | ((with_reducible refine AW.region Try.tabOk ?_); (conv => whnf))
    | ((with_reducible refine AW.draw Try.tabOk Try.mixed ?_ ?_); (focus rfl); (conv => whnf))
    | ((with_reducible refine AW.ret ?_); (conv => whnf))
    | ((with_reducible refine AW.block ?_))
    | (with_reducible refine AW.scope ?_)
    | ((with_reducible refine AW.label ?_); (conv => whnf))
    | ((with_reducible refine AW.exit ?_); (conv => whnf))
    | ((with_reducible refine AW.skip ?_); (conv => whnf))
    | ((with_reducible refine AW.cond ?_); (conv => whnf))
    | ((with_reducible refine Own2.data ?_); (conv => whnf))
    | ((with_reducible refine ACall.id ?_); (refine PCall.call (by first | exact c102) rfl ?_); (intro x hx; first | subst hx | (obtain ⟨l_, rfl, hl_⟩ := hx.out)); (conv => whnf))
    | ((with_reducible refine ACall.freeze rfl ?_); (conv => whnf))
    | (refine ⟨true, _, rfl, ?_⟩; (conv => whnf))
    | (refine ⟨false, .nilp, rfl, ?_⟩; (conv => whnf))
    | (refine ⟨_, _, by first | exact c102, ?_⟩; (conv => whnf))
    | ((with_reducible apply Or.inl); (refine ⟨rfl, rfl, ?_⟩); (conv => whnf))
    | (refine ⟨_, ⟨rfl, rfl⟩, ?_⟩; (conv => whnf))
    | (refine ⟨_, ⟨rfl, getM (by first | omega | (simp; omega))⟩, ?_⟩; (conv => whnf))
    | ((with_reducible apply Or.inl); apply Exists.intro; apply And.intro; (focus (intro hg; (conv => whnf); (repeat' first | (with_reducible exact ⟨rfl, rfl⟩) | ((with_reducible refine Own2.data ?_); (conv => whnf)) | (refine ⟨true, _, rfl, ?_⟩; (conv => whnf)) | (refine ⟨false, .nilp, rfl, ?_⟩; (conv => whnf)) | (refine ⟨_, _, by first | exact c102, ?_⟩; (conv => whnf)) | ((with_reducible apply Or.inl); (refine ⟨rfl, rfl, ?_⟩); (conv => whnf)) | ((with_reducible apply Or.inl); (with_reducible apply And.intro); (focus (simp only [rng]; omega)); (conv => whnf)) | (refine ⟨by first | omega | (simp at hg ⊢; omega) | (simp_all; first | done | fail), ?_⟩; (conv => whnf)) | ((with_reducible refine ACall.id ?_); (refine PCall.call (by first | exact c102) rfl ?_); (intro x hx; first | subst hx | (obtain ⟨l_, rfl, hl_⟩ := hx.out)); (conv => whnf)) | (intro hlen; (conv => whnf))); done)); (conv => whnf))
    | (apply Exists.intro; apply And.intro; (focus (first | (intro hg; (conv => whnf)) | (conv => whnf)); (repeat' first | (with_reducible exact ⟨rfl, rfl⟩) | ((with_reducible refine Own2.data ?_); (conv => whnf)) | (refine ⟨true, _, rfl, ?_⟩; (conv => whnf)) | (refine ⟨false, .nilp, rfl, ?_⟩; (conv => whnf)) | (refine ⟨_, _, by first | exact c102, ?_⟩; (conv => whnf)) | ((with_reducible apply Or.inl); (refine ⟨rfl, rfl, ?_⟩); (conv => whnf)) | ((with_reducible apply Or.inl); (with_reducible apply And.intro); (focus (simp only [rng]; omega)); (conv => whnf)) | (refine ⟨by first | omega | (simp at hg ⊢; omega) | (simp_all; first | done | fail), ?_⟩; (conv => whnf)) | ((with_reducible refine ACall.id ?_); (refine PCall.call (by first | exact c102) rfl ?_); (intro x hx; first | subst hx | (obtain ⟨l_, rfl, hl_⟩ := hx.out)); (conv => whnf)) | (intro hlen; (conv => whnf))); done); (conv => whnf))
    | ((with_reducible apply Or.inl); (with_reducible apply And.intro); (focus (simp only [rng]; omega)); (conv => whnf))
    | ((with_reducible apply Or.inr); (with_reducible apply And.intro) <;> (intro hb; (try simp at hb); (try (exfalso; first | omega | (simp_all; first | done | fail))); (try (conv => whnf))))
    | ((with_reducible apply And.intro); (focus (first | omega | (exact True.intro) | (simp; omega) | (exact Nat.le_of_ble_eq_true rfl) | (exact ⟨rfl, Nat.le_of_ble_eq_true rfl⟩) | (exact ⟨Nat.le_of_ble_eq_true rfl, Nat.le_of_ble_eq_true rfl⟩) | (intro hg; first | (simp; first | done | fail) | (simp at hg ⊢; exact hg) | (simp at hg; exact hg) | exact hg))); (conv => whnf))
    | ((with_reducible apply And.intro) <;> (intro hb; (try simp at hb); (try (exfalso; first | omega | (simp_all; first | done | fail))); (try (conv => whnf))))
    | (intro hlen; (conv => whnf))
    | ((with_reducible refine And.intro (Side.out ?_) ?_); rotate_left; (conv => whnf); rotate_right)
  · exact ⟨by show 0 + ((s.getD (i : Int).toNat 0).toNat : Int).toNat * 1 < 256; omega⟩
  · rename_i hit
    have hg : s[i]?.getD 0 = s.getD i 0 := by rw [List.getD_eq_getElem?_getD]
    rw [hg] at hb
    have : nameB s = false := by
      unfold nameB
      rcases hb.2 with h0 | h0
      · subst h0
        have : letter (s.getD 0 0) = false := by
          rw [Bool.eq_false_iff]; intro h; have := (letter_iff _).1 h; omega
        rw [this]; simp
      · rw [not_all_of_getD (p := word) 0 hit (by rw [Bool.eq_false_iff]; intro h; have := (word_iff _).1 h; omega)]; simp
    rw [this]
  · rename_i hit
    have hg : s[i]?.getD 0 = s.getD i 0 := by rw [List.getD_eq_getElem?_getD]
    rw [hg] at hb
    refine .mk (i + 1) ⟨by omega, fun j hj => ?_⟩ (by show s.length - (i + 1) < s.length - i; omega) ⟨rfl, rfl, rfl, ⟨OLe.refl _, trivial⟩, ⟨AV.le_refl _, AV.le_refl _, AV.le_refl _, AV.le_refl _, trivial⟩⟩
    by_cases e : j = i
    · subst e
      refine ⟨(word_iff _).2 (by omega), fun h => ?_⟩
      subst h
      exact (letter_iff _).2 (by omega)
    · exact hw j (by omega)
  · congr 2
    have hi2 : i = s.length := by omega
    subst hi2
    rw [bif_and]
    have hall : s.all word = true := all_of_getD 0 fun j hj => (hw j hj).1
    unfold nameB
    rw [hall]
    cases s with
    | nil => rfl
    | cons c r =>
      have hl : letter ((c :: r).getD 0 0) = true := (hw 0 (by simp)).2 rfl
      rw [hl]
      have : (decide (((c :: r).length : Int) ≤ 24)) = decide ((c :: r).length ≤ 24) := by rw [Bool.eq_iff_iff]; simp; omega
      rw [this]
      simp
end Go.Proofs
end
section
/- Contracts: tags. -/
namespace Go.Proofs
open Go.Pm
set_option maxRecDepth 100000

def ltS (a b : Str) : Bool := Op.bytesLess a b
theorem ltS_nil (a : Str) : ltS a [] = false := by cases a <;> rfl
theorem ltS_irrefl (a : Str) : ltS a a = false := by
  induction a with
  | nil => rfl
  | cons x a ih =>
    show (decide (x < x) || (x == x && ltS a a)) = false
    rw [ih]; simp
theorem ltS_cons (x y : UInt8) (a b : Str) : ltS (x :: a) (y :: b) = (decide (x < y) || (x == y && ltS a b)) := rfl
theorem ltS_trans : ∀ {a b c : Str}, ltS a b = true → ltS b c = true → ltS a c = true
  | _, b, [], h1, h2 => by rw [ltS_nil] at h2; cases h2
  | [], _, c :: cs, h1, h2 => rfl
  | a :: p, [], c :: r, h1, h2 => by rw [ltS_nil] at h1; cases h1
  | a :: p, b :: q, c :: r, h1, h2 => by
    rw [ltS_cons] at h1 h2 ⊢
    simp only [Bool.or_eq_true, Bool.and_eq_true, decide_eq_true_eq, beq_iff_eq] at h1 h2 ⊢
    rcases h1 with h1 | ⟨rfl, h1⟩
    · rcases h2 with h2 | ⟨rfl, h2⟩
      · left; exact UInt8.lt_trans h1 h2
      · left; exact h1
    · rcases h2 with h2 | ⟨rfl, h2⟩
      · left; exact h2
      · right; exact ⟨rfl, ltS_trans h1 h2⟩
theorem ltS_tri : ∀ (a b : Str), ltS a b = true ∨ a = b ∨ ltS b a = true
  | [], [] => .inr (.inl rfl)
  | [], _ :: _ => .inl rfl
  | _ :: _, [] => .inr (.inr rfl)
  | a :: p, b :: q => by
    rw [ltS_cons, ltS_cons]
    simp only [Bool.or_eq_true, Bool.and_eq_true, decide_eq_true_eq, beq_iff_eq]
    have htri : a < b ∨ a = b ∨ b < a := by
      rcases Nat.lt_trichotomy a.toNat b.toNat with h | h | h
      · exact .inl h
      · exact .inr (.inl (UInt8.toNat_inj.1 h))
      · exact .inr (.inr h)
    rcases htri with h | rfl | h
    · exact .inl (.inl h)
    · rcases ltS_tri p q with h | rfl | h
      · exact .inl (.inr ⟨rfl, h⟩)
      · exact .inr (.inl rfl)
      · exact .inr (.inr (.inr ⟨rfl, h⟩))
    · exact .inr (.inr (.inl h))
theorem ltS_asymm {a b : Str} (h : ltS a b = true) : ltS b a = false := by
  rw [Bool.eq_false_iff]; intro h2
  have := ltS_trans h h2
  rw [ltS_irrefl] at this; cases this
theorem ltS_ne {a b : Str} (h : ltS a b = true) : a ≠ b := by
  rintro rfl; rw [ltS_irrefl] at h; cases h
/-- Go's <=, by what it is made of. -/
theorem leS_not (a b : Str) : (Op.bytesLess a b || a == b) = !ltS b a := by
  show (ltS a b || a == b) = _
  rcases ltS_tri a b with h | rfl | h
  · rw [h, ltS_asymm h]; rfl
  · rw [ltS_irrefl]; simp
  · rw [ltS_asymm h, h]
    have := ltS_ne h
    simp [Ne.symm this]

/-- In order, strictly. -/
def ascP (l : List Str) : Prop := ∀ i, i + 1 < l.length → ltS (l.getD i []) (l.getD (i + 1) []) = true
instance (l : List Str) : Decidable (ascP l) := by
  unfold ascP
  exact decidable_of_iff (∀ i, i < l.length - 1 → ltS (l.getD i []) (l.getD (i + 1) []) = true) ⟨fun h i hi => h i (by omega), fun h i hi => h i (by omega)⟩
def tagB (p : Str × Str) : Bool := nameB p.1 && decide (0 < p.2.length) && decide (p.2.length ≤ 200)
def tagsB (L : List (Str × Str)) : Bool := L.all tagB && decide (ascP (L.map (·.1))) && decide (L.length ≤ 60)

def lastK (L : List Str) (i : Nat) : Str := if i = 0 then [] else L.getD (i - 1) []
theorem map_getD {α β : Type} (f : α → β) (L : List α) (i : Nat) (d : α) : (L.map f).getD i (f d) = f (L.getD i d) := by
  simp only [List.getD_eq_getElem?_getD, List.getElem?_map]
  cases L[i]? <;> rfl
theorem nameB_ne {k : Str} (h : nameB k = true) : k ≠ [] := by rintro rfl; revert h; decide
theorem nil_lt {k : Str} (h : k ≠ []) : ltS [] k = true := by cases k with | nil => exact absurd rfl h | cons => rfl

theorem c37 (L : List (Str × Str)) : PCall Try.prog 37 [.d (encTags L)] fun x => x = .d (.bool (tagsB L)) := by
  refine PCall.intro Try.tabOk Try.f37 _ Try.func37 rfl (by decide) rfl fun z => ?_
  repeat' first
    | (with_reducible refine AW.seq ?_)
    | ((with_reducible refine AW.region Try.tabOk ?_); (conv => whnf))
    | ((with_reducible refine AW.draw Try.tabOk Try.mixed ?_ ?_); (focus rfl); (conv => whnf))
    | ((with_reducible refine AW.ret ?_); (conv => whnf))
    | ((with_reducible refine AW.block ?_))
    | (with_reducible refine AW.scope ?_)
    | ((with_reducible refine AW.label ?_); (conv => whnf))
    | ((with_reducible refine AW.exit ?_); (conv => whnf))
    | ((with_reducible refine AW.skip ?_); (conv => whnf))
    | ((with_reducible refine AW.cond ?_); (conv => whnf))
    | ((with_reducible refine Own2.data ?_); (conv => whnf))
    | ((with_reducible refine ACall.id ?_); (refine PCall.call (by first | exact c74 _) rfl ?_); (intro x hx; first | subst hx | (obtain ⟨l_, rfl, hl_⟩ := hx.out)); (conv => whnf))
    | ((with_reducible refine ACall.freeze rfl ?_); (conv => whnf))
    | (refine ⟨true, _, rfl, ?_⟩; (conv => whnf))
    | (refine ⟨false, .nilp, rfl, ?_⟩; (conv => whnf))
    | (refine ⟨_, _, by first | exact c74 _, ?_⟩; (conv => whnf))
    | ((with_reducible apply Or.inl); (refine ⟨rfl, rfl, ?_⟩); (conv => whnf))
    | (refine ⟨_, ⟨rfl, rfl⟩, ?_⟩; (conv => whnf))
    | (refine ⟨_, ⟨rfl, getM (by first | omega | (simp; omega))⟩, ?_⟩; (conv => whnf))
    | ((with_reducible apply Or.inl); apply Exists.intro; apply And.intro; (focus (intro hg; (conv => whnf); (repeat' first | (with_reducible exact ⟨rfl, rfl⟩) | ((with_reducible refine Own2.data ?_); (conv => whnf)) | (refine ⟨true, _, rfl, ?_⟩; (conv => whnf)) | (refine ⟨false, .nilp, rfl, ?_⟩; (conv => whnf)) | (refine ⟨_, _, by first | exact c74 _, ?_⟩; (conv => whnf)) | ((with_reducible apply Or.inl); (refine ⟨rfl, rfl, ?_⟩); (conv => whnf)) | ((with_reducible apply Or.inl); (with_reducible apply And.intro); (focus (simp only [rng]; omega)); (conv => whnf)) | (refine ⟨by first | omega | (simp at hg ⊢; omega) | (simp_all; first | done | fail), ?_⟩; (conv => whnf)) | ((with_reducible refine ACall.id ?_); (refine PCall.call (by first | exact c74 _) rfl ?_); (intro x hx; first | subst hx | (obtain ⟨l_, rfl, hl_⟩ := hx.out)); (conv => whnf)) | (intro hlen; (conv => whnf))); done)); (conv => whnf))
    | (apply Exists.intro; apply And.intro; (focus (first | (intro hg; (conv => whnf)) | (conv => whnf)); (repeat' first | (with_reducible exact ⟨rfl, rfl⟩) | ((with_reducible refine Own2.data ?_); (conv => whnf)) | (refine ⟨true, _, rfl, ?_⟩; (conv => whnf)) | (refine ⟨false, .nilp, rfl, ?_⟩; (conv => whnf)) | (refine ⟨_, _, by first | exact c74 _, ?_⟩; (conv => whnf)) | ((with_reducible apply Or.inl); (refine ⟨rfl, rfl, ?_⟩); (conv => whnf)) | ((with_reducible apply Or.inl); (with_reducible apply And.intro); (focus (simp only [rng]; omega)); (conv => whnf)) | (refine ⟨by first | omega | (simp at hg ⊢; omega) | (simp_all; first | done | fail), ?_⟩; (conv => whnf)) | ((with_reducible refine ACall.id ?_); (refine PCall.call (by first | exact c74 _) rfl ?_); (intro x hx; first | subst hx | (obtain ⟨l_, rfl, hl_⟩ := hx.out)); (conv => whnf)) | (intro hlen; (conv => whnf))); done); (conv => whnf))
    | ((with_reducible apply Or.inl); (with_reducible apply And.intro); (focus (simp only [rng]; omega)); (conv => whnf))
    | ((with_reducible apply Or.inr); (with_reducible apply And.intro) <;> (intro hb; (try simp at hb); (try (exfalso; first | omega | (simp_all; first | done | fail))); (try (conv => whnf))))
    | ((with_reducible apply And.intro); (focus (first | omega | (exact True.intro) | (simp; omega) | (exact Nat.le_of_ble_eq_true rfl) | (exact ⟨rfl, Nat.le_of_ble_eq_true rfl⟩) | (exact ⟨Nat.le_of_ble_eq_true rfl, Nat.le_of_ble_eq_true rfl⟩) | (intro hg; first | (simp; first | done | fail) | (simp at hg ⊢; exact hg) | (simp at hg; exact hg) | exact hg))); (conv => whnf))
    | ((with_reducible apply And.intro) <;> (intro hb; (try simp at hb); (try (exfalso; first | omega | (simp_all; first | done | fail))); (try (conv => whnf))))
    | (intro hlen; (conv => whnf))
    | ((with_reducible refine And.intro (Side.out ?_) ?_); rotate_left; (conv => whnf); rotate_right)
  refine AW.loopN (X := Nat) (fun i => ⟨[(3, .d (.str (lastK (L.map (·.1)) i))), (6, .d (encTags L)), (7, .d (.int .i64 (L.length : Int))), (8, .d (.int .i64 (i : Int))), (0, .d (encTags L))], ⟨[], 0⟩, none, z⟩)
    (fun i => i ≤ L.length ∧ (∀ j, j < i → tagB (L.getD j dT) = true) ∧ ∀ j, j + 1 < i → ltS ((L.getD j dT).1) ((L.getD (j + 1) dT).1) = true) (fun i => L.length - i) (fun _ _ => ⟨rfl, rfl⟩) 0 ⟨by omega, fun j h => by omega, fun j h => by omega⟩ ⟨rfl, rfl, rfl, trivial, ⟨AV.le_refl _, AV.le_refl _, AV.le_refl _, AV.le_refl _, AV.le_refl _, trivial⟩⟩ ?_
  intro i ⟨hi, hw, ha⟩
  repeat' first
    | (with_reducible refine AW.seq ?_)
    | ((with_reducible refine AW.region Try.tabOk ?_); (conv => whnf))
    | ((with_reducible refine AW.draw Try.tabOk Try.mixed ?_ ?_); (focus rfl); (conv => whnf))
    | ((with_reducible refine AW.ret ?_); (conv => whnf))
    | ((with_reducible refine AW.block ?_))
    | (with_reducible refine AW.scope ?_)
    | ((with_reducible refine AW.label ?_); (conv => whnf))
    | ((with_reducible refine AW.exit ?_); (conv => whnf))
    | ((with_reducible refine AW.skip ?_); (conv => whnf))
    | ((with_reducible refine AW.cond ?_); (conv => whnf))
    | ((with_reducible refine Own2.data ?_); (conv => whnf))
    | ((with_reducible refine ACall.id ?_); (refine PCall.call (by first | exact c74 _) rfl ?_); (intro x hx; first | subst hx | (obtain ⟨l_, rfl, hl_⟩ := hx.out)); (conv => whnf))
    | ((with_reducible refine ACall.freeze rfl ?_); (conv => whnf))
    | (refine ⟨true, _, rfl, ?_⟩; (conv => whnf))
    | (refine ⟨false, .nilp, rfl, ?_⟩; (conv => whnf))
    | (refine ⟨_, _, by first | exact c74 _, ?_⟩; (conv => whnf))
    | ((with_reducible apply Or.inl); (refine ⟨rfl, rfl, ?_⟩); (conv => whnf))
    | (refine ⟨_, ⟨rfl, rfl⟩, ?_⟩; (conv => whnf))
    | (refine ⟨_, ⟨rfl, getM (by first | omega | (simp; omega))⟩, ?_⟩; (conv => whnf))
    | ((with_reducible apply Or.inl); apply Exists.intro; apply And.intro; (focus (intro hg; (conv => whnf); (repeat' first | (with_reducible exact ⟨rfl, rfl⟩) | ((with_reducible refine Own2.data ?_); (conv => whnf)) | (refine ⟨true, _, rfl, ?_⟩; (conv => whnf)) | (refine ⟨false, .nilp, rfl, ?_⟩; (conv => whnf)) | (refine ⟨_, _, by first | exact c74 _, ?_⟩; (conv => whnf)) | ((with_reducible apply Or.inl); (refine ⟨rfl, rfl, ?_⟩); (conv => whnf)) | ((with_reducible apply Or.inl); (with_reducible apply And.intro); (focus (simp only [rng]; omega)); (conv => whnf)) | (refine ⟨by first | omega | (simp at hg ⊢; omega) | (simp_all; first | done | fail), ?_⟩; (conv => whnf)) | ((with_reducible refine ACall.id ?_); (refine PCall.call (by first | exact c74 _) rfl ?_); (intro x hx; first | subst hx | (obtain ⟨l_, rfl, hl_⟩ := hx.out)); (conv => whnf)) | (intro hlen; (conv => whnf))); done)); (conv => whnf))
    | (apply Exists.intro; apply And.intro; (focus (first | (intro hg; (conv => whnf)) | (conv => whnf)); (repeat' first | (with_reducible exact ⟨rfl, rfl⟩) | ((with_reducible refine Own2.data ?_); (conv => whnf)) | (refine ⟨true, _, rfl, ?_⟩; (conv => whnf)) | (refine ⟨false, .nilp, rfl, ?_⟩; (conv => whnf)) | (refine ⟨_, _, by first | exact c74 _, ?_⟩; (conv => whnf)) | ((with_reducible apply Or.inl); (refine ⟨rfl, rfl, ?_⟩); (conv => whnf)) | ((with_reducible apply Or.inl); (with_reducible apply And.intro); (focus (simp only [rng]; omega)); (conv => whnf)) | (refine ⟨by first | omega | (simp at hg ⊢; omega) | (simp_all; first | done | fail), ?_⟩; (conv => whnf)) | ((with_reducible refine ACall.id ?_); (refine PCall.call (by first | exact c74 _) rfl ?_); (intro x hx; first | subst hx | (obtain ⟨l_, rfl, hl_⟩ := hx.out)); (conv => whnf)) | (intro hlen; (conv => whnf))); done); (conv => whnf))
    | ((with_reducible apply Or.inl); (with_reducible apply And.intro); (focus (simp only [rng]; omega)); (conv => whnf))
    | ((with_reducible apply Or.inr); (with_reducible apply And.intro) <;> (intro hb; (try simp at hb); (try (exfalso; first | omega | (simp_all; first | done | fail))); (try (conv => whnf))))
    | ((with_reducible apply And.intro); (focus (first | omega | (exact True.intro) | (simp; omega) | (exact Nat.le_of_ble_eq_true rfl) | (exact ⟨rfl, Nat.le_of_ble_eq_true rfl⟩) | (exact ⟨Nat.le_of_ble_eq_true rfl, Nat.le_of_ble_eq_true rfl⟩) | (intro hg; first | (simp; first | done | fail) | (simp at hg ⊢; exact hg) | (simp at hg; exact hg) | exact hg))); (conv => whnf))
    | ((with_reducible apply And.intro) <;> (intro hb; (try simp at hb); (try (exfalso; first | omega | (simp_all; first | done | fail))); (try (conv => whnf))))
    | (intro hlen; (conv => whnf))
    | ((with_reducible refine And.intro (Side.out ?_) ?_); rotate_left; (conv => whnf); rotate_right)
  · rename_i hit
    simp only [← List.getD_eq_getElem?_getD] at hb
    have : tagsB L = false := by
      rw [Bool.eq_false_iff]
      intro ht
      simp only [tagsB, Bool.and_eq_true, decide_eq_true_eq] at ht
      obtain ⟨⟨h1, h2⟩, h3⟩ := ht
      have h1 := (List.all_eq_true.1 h1) (L.getD i dT) (by rw [List.getD_eq_getElem?_getD, List.getElem?_eq_getElem hit]; simp)
      simp only [tagB, Bool.and_eq_true, decide_eq_true_eq] at h1
      rcases hb with (hb | hb) | hb
      · rcases hb with hb | hb
        · rw [hb] at h1; exact absurd h1.1.1 (by simp)
        · have hlt : ltS (lastK (L.map (·.1)) i) (L.getD i dT).1 = true := by
            unfold lastK
            split
            · exact nil_lt (nameB_ne h1.1.1)
            · have := h2 (i - 1) (by simp; omega)
              rw [show i - 1 + 1 = i by omega] at this
              have e : (L.map (·.1)).getD i [] = (L.getD i dT).1 := map_getD (fun p : Str × Str => p.1) L i dT
              rw [e] at this; exact this
          rcases hb with hb | hb
          · have := ltS_asymm hlt
            rw [show ltS (L.getD i dT).1 (lastK (L.map (·.1)) i) = true from hb] at this; cases this
          · exact ltS_ne hlt hb.symm
      · rw [hb] at h1; simp at h1
      · have : List.length (L.getD i ([], [])).2 ≤ 200 := h1.2
        omega
    rw [this]
  · rename_i hit
    simp only [← List.getD_eq_getElem?_getD] at hb
    have hlk : ∀ k, k < L.length → lastK (L.map (·.1)) (k + 1) = (L.getD k dT).1 := fun k hk => by
      unfold lastK
      rw [if_neg (by omega), show k + 1 - 1 = k by omega]
      exact map_getD (fun p : Str × Str => p.1) L k dT
    refine .mk (i + 1) ⟨by omega, fun j hj => ?_, fun j hj => ?_⟩ (by show L.length - (i + 1) < L.length - i; omega) ⟨rfl, rfl, rfl, trivial, ⟨AV.le_of_eq (by rw [hlk i hit]; rfl), AV.le_refl _, AV.le_refl _, AV.le_refl _, AV.le_refl _, trivial⟩, rfl⟩
    · by_cases e : j = i
      · subst e
        have h2 : 0 < (L.getD j dT).2.length := List.length_pos_iff.2 hb.1.2
        have h3 : (L.getD j dT).2.length ≤ 200 := by have := hb.2; show List.length (L.getD j ([], [])).2 ≤ 200; omega
        simp only [tagB, Bool.and_eq_true, decide_eq_true_eq]
        exact ⟨⟨hb.1.1.1, h2⟩, h3⟩
      · exact hw j (by omega)
    · by_cases e : j + 1 = i
      · have h1 := hb.1.1.2
        have hl : lastK (L.map (·.1)) i = (L.getD j dT).1 := by rw [← e]; exact hlk j (by omega)
        rw [hl] at h1
        rcases ltS_tri (L.getD j dT).1 (L.getD i dT).1 with h | h | h
        · rw [e]; exact h
        · exact absurd h.symm h1.2
        · have := h1.1
          rw [show Op.bytesLess (L.getD i ([], [])).1 (L.getD j dT).1 = ltS (L.getD i dT).1 (L.getD j dT).1 from rfl, h] at this; cases this
      · exact ha j (by omega)
  · have he : i = L.length := by omega
    subst he
    have h1 : L.all tagB = true := all_of_getD dT hw
    have h2 : ascP (L.map (·.1)) := fun j hj => by
      rw [List.length_map] at hj
      have := ha j hj
      rw [show (L.map (·.1)).getD j [] = (L.getD j dT).1 from map_getD (fun p : Str × Str => p.1) L j dT, show (L.map (·.1)).getD (j + 1) [] = (L.getD (j + 1) dT).1 from map_getD (fun p : Str × Str => p.1) L (j + 1) dT]
      exact this
    have : tagsB L = decide ((L.length : Int) ≤ 60) := by
      rw [Bool.eq_iff_iff]
      simp only [tagsB, h1, h2, decide_true, Bool.and_true, Bool.true_and, decide_eq_true_eq]
      omega
    rw [this]

def getT (L : List (Str × Str)) (k : Str) : Option Str := (L.find? fun p => p.1 == k).map (·.2)
theorem getT_some {L : List (Str × Str)} {k : Str} {i : Nat} (hi : i < L.length) (hk : (L.getD i dT).1 = k) (h : ∀ j, j < i → (L.getD j dT).1 ≠ k) : getT L k = some (L.getD i dT).2 := by
  have : L.find? (fun p => p.1 == k) = some (L.getD i dT) := by
    rw [List.find?_eq_some_iff_getElem]
    refine ⟨by simpa using hk, i, hi, by rw [List.getD_eq_getElem?_getD, List.getElem?_eq_getElem hi]; rfl, fun j hj => ?_⟩
    have := h j hj
    rw [List.getD_eq_getElem?_getD, List.getElem?_eq_getElem (by omega)] at this
    simpa using this
  simp [getT, this]
theorem getT_none {L : List (Str × Str)} {k : Str} (h : ∀ j, j < L.length → (L.getD j dT).1 ≠ k) : getT L k = none := by
  have : L.find? (fun p => p.1 == k) = none := by
    rw [List.find?_eq_none]
    intro x hx
    obtain ⟨j, hj, rfl⟩ := List.mem_iff_getElem.1 hx
    have := h j hj
    rw [List.getD_eq_getElem?_getD, List.getElem?_eq_getElem hj] at this
    simpa using this
  simp [getT, this]
theorem c42 (L : List (Str × Str)) (k : Str) : PCall Try.prog 42 [.d (encTags L), .d (.str k)] fun x => x = .tup [.d (.str ((getT L k).getD [])), .d (.bool (getT L k).isSome)] := by
  refine PCall.intro Try.tabOk Try.f42 _ Try.func42 rfl (by decide) rfl fun z => ?_
  repeat' first
    | (with_reducible refine AW.seq ?_)
    | ((with_reducible refine AW.region Try.tabOk ?_); (conv => whnf))
    | ((with_reducible refine AW.draw Try.tabOk Try.mixed ?_ ?_); (focus rfl); (conv => whnf))
    | ((with_reducible refine AW.ret ?_); (conv => whnf))
    | ((with_reducible refine AW.block ?_))
    | (with_reducible refine AW.scope ?_)
    | ((with_reducible refine AW.label ?_); (conv => whnf))
    | ((with_reducible refine AW.exit ?_); (conv => whnf))
    | ((with_reducible refine AW.skip ?_); (conv => whnf))
    | ((with_reducible refine AW.cond ?_); (conv => whnf))
    | ((with_reducible refine Own2.data ?_); (conv => whnf))
    | ((with_reducible refine ACall.id ?_); (refine PCall.call (by first | exact c74 _) rfl ?_); (intro x hx; first | subst hx | (obtain ⟨l_, rfl, hl_⟩ := hx.out)); (conv => whnf))
    | ((with_reducible refine ACall.freeze rfl ?_); (conv => whnf))
    | (refine ⟨true, _, rfl, ?_⟩; (conv => whnf))
    | (refine ⟨false, .nilp, rfl, ?_⟩; (conv => whnf))
    | (refine ⟨_, _, by first | exact c74 _, ?_⟩; (conv => whnf))
    | ((with_reducible apply Or.inl); (refine ⟨rfl, rfl, ?_⟩); (conv => whnf))
    | (refine ⟨_, ⟨rfl, rfl⟩, ?_⟩; (conv => whnf))
    | (refine ⟨_, ⟨rfl, getM (by first | omega | (simp; omega))⟩, ?_⟩; (conv => whnf))
    | ((with_reducible apply Or.inl); apply Exists.intro; apply And.intro; (focus (intro hg; (conv => whnf); (repeat' first | (with_reducible exact ⟨rfl, rfl⟩) | ((with_reducible refine Own2.data ?_); (conv => whnf)) | (refine ⟨true, _, rfl, ?_⟩; (conv => whnf)) | (refine ⟨false, .nilp, rfl, ?_⟩; (conv => whnf)) | (refine ⟨_, _, by first | exact c74 _, ?_⟩; (conv => whnf)) | ((with_reducible apply Or.inl); (refine ⟨rfl, rfl, ?_⟩); (conv => whnf)) | ((with_reducible apply Or.inl); (with_reducible apply And.intro); (focus (simp only [rng]; omega)); (conv => whnf)) | (refine ⟨by first | omega | (simp at hg ⊢; omega) | (simp_all; first | done | fail), ?_⟩; (conv => whnf)) | ((with_reducible refine ACall.id ?_); (refine PCall.call (by first | exact c74 _) rfl ?_); (intro x hx; first | subst hx | (obtain ⟨l_, rfl, hl_⟩ := hx.out)); (conv => whnf)) | (intro hlen; (conv => whnf))); done)); (conv => whnf))
    | (apply Exists.intro; apply And.intro; (focus (first | (intro hg; (conv => whnf)) | (conv => whnf)); (repeat' first | (with_reducible exact ⟨rfl, rfl⟩) | ((with_reducible refine Own2.data ?_); (conv => whnf)) | (refine ⟨true, _, rfl, ?_⟩; (conv => whnf)) | (refine ⟨false, .nilp, rfl, ?_⟩; (conv => whnf)) | (refine ⟨_, _, by first | exact c74 _, ?_⟩; (conv => whnf)) | ((with_reducible apply Or.inl); (refine ⟨rfl, rfl, ?_⟩); (conv => whnf)) | ((with_reducible apply Or.inl); (with_reducible apply And.intro); (focus (simp only [rng]; omega)); (conv => whnf)) | (refine ⟨by first | omega | (simp at hg ⊢; omega) | (simp_all; first | done | fail), ?_⟩; (conv => whnf)) | ((with_reducible refine ACall.id ?_); (refine PCall.call (by first | exact c74 _) rfl ?_); (intro x hx; first | subst hx | (obtain ⟨l_, rfl, hl_⟩ := hx.out)); (conv => whnf)) | (intro hlen; (conv => whnf))); done); (conv => whnf))
    | ((with_reducible apply Or.inl); (with_reducible apply And.intro); (focus (simp only [rng]; omega)); (conv => whnf))
    | ((with_reducible apply Or.inr); (with_reducible apply And.intro) <;> (intro hb; (try simp at hb); (try (exfalso; first | omega | (simp_all; first | done | fail))); (try (conv => whnf))))
    | ((with_reducible apply And.intro); (focus (first | omega | (exact True.intro) | (simp; omega) | (exact Nat.le_of_ble_eq_true rfl) | (exact ⟨rfl, Nat.le_of_ble_eq_true rfl⟩) | (exact ⟨Nat.le_of_ble_eq_true rfl, Nat.le_of_ble_eq_true rfl⟩) | (intro hg; first | (simp; first | done | fail) | (simp at hg ⊢; exact hg) | (simp at hg; exact hg) | exact hg))); (conv => whnf))
    | ((with_reducible apply And.intro) <;> (intro hb; (try simp at hb); (try (exfalso; first | omega | (simp_all; first | done | fail))); (try (conv => whnf))))
    | (intro hlen; (conv => whnf))
    | ((with_reducible refine And.intro (Side.out ?_) ?_); rotate_left; (conv => whnf); rotate_right)
  refine AW.loopN (X := Nat) (fun i => ⟨[(8, .d (encTags L)), (9, .d (.int .i64 (L.length : Int))), (10, .d (.int .i64 (i : Int))), (1, .d (.str k))], ⟨[], 0⟩, none, z⟩)
    (fun i => i ≤ L.length ∧ (∀ j, j < i → (L.getD j dT).1 ≠ k)) (fun i => L.length - i) (fun _ _ => ⟨rfl, rfl⟩) 0 ⟨by omega, fun j h => by omega⟩ ⟨rfl, rfl, rfl, trivial, ⟨AV.le_refl _, AV.le_refl _, AV.le_refl _, AV.le_refl _, trivial⟩⟩ ?_
  intro i ⟨hi, hw⟩
  repeat' first
    | (with_reducible refine AW.seq ?_)
    | ((with_reducible refine AW.region Try.tabOk ?_); (conv => whnf))
    | ((with_reducible refine AW.draw Try.tabOk Try.mixed ?_ ?_); (focus rfl); (conv => whnf))
    | ((with_reducible refine AW.ret ?_); (conv => whnf))
    | ((with_reducible refine AW.block ?_))
    | (with_reducible refine AW.scope ?_)
    | ((with_reducible refine AW.label ?_); (conv => whnf))
    | ((with_reducible refine AW.exit ?_); (conv => whnf))
    | ((with_reducible refine AW.skip ?_); (conv => whnf))
    | ((with_reducible refine AW.cond ?_); (conv => whnf))
    | ((with_reducible refine Own2.data ?_); (conv => whnf))
    | ((with_reducible refine ACall.id ?_); (refine PCall.call (by first | exact c74 _) rfl ?_); (intro x hx; first | subst hx | (obtain ⟨l_, rfl, hl_⟩ := hx.out)); (conv => whnf))
    | ((with_reducible refine ACall.freeze rfl ?_); (conv => whnf))
    | (refine ⟨true, _, rfl, ?_⟩; (conv => whnf))
    | (refine ⟨false, .nilp, rfl, ?_⟩; (conv => whnf))
    | (refine ⟨_, _, by first | exact c74 _, ?_⟩; (conv => whnf))
    | ((with_reducible apply Or.inl); (refine ⟨rfl, rfl, ?_⟩); (conv => whnf))
    | (refine ⟨_, ⟨rfl, rfl⟩, ?_⟩; (conv => whnf))
    | (refine ⟨_, ⟨rfl, getM (by first | omega | (simp; omega))⟩, ?_⟩; (conv => whnf))
    | ((with_reducible apply Or.inl); apply Exists.intro; apply And.intro; (focus (intro hg; (conv => whnf); (repeat' first | (with_reducible exact ⟨rfl, rfl⟩) | ((with_reducible refine Own2.data ?_); (conv => whnf)) | (refine ⟨true, _, rfl, ?_⟩; (conv => whnf)) | (refine ⟨false, .nilp, rfl, ?_⟩; (conv => whnf)) | (refine ⟨_, _, by first | exact c74 _, ?_⟩; (conv => whnf)) | ((with_reducible apply Or.inl); (refine ⟨rfl, rfl, ?_⟩); (conv => whnf)) | ((with_reducible apply Or.inl); (with_reducible apply And.intro); (focus (simp only [rng]; omega)); (conv => whnf)) | (refine ⟨by first | omega | (simp at hg ⊢; omega) | (simp_all; first | done | fail), ?_⟩; (conv => whnf)) | ((with_reducible refine ACall.id ?_); (refine PCall.call (by first | exact c74 _) rfl ?_); (intro x hx; first | subst hx | (obtain ⟨l_, rfl, hl_⟩ := hx.out)); (conv => whnf)) | (intro hlen; (conv => whnf))); done)); (conv => whnf))
    | (apply Exists.intro; apply And.intro; (focus (first | (intro hg; (conv => whnf)) | (conv => whnf)); (repeat' first | (with_reducible exact ⟨rfl, rfl⟩) | ((with_reducible refine Own2.data ?_); (conv => whnf)) | (refine ⟨true, _, rfl, ?_⟩; (conv => whnf)) | (refine ⟨false, .nilp, rfl, ?_⟩; (conv => whnf)) | (refine ⟨_, _, by first | exact c74 _, ?_⟩; (conv => whnf)) | ((with_reducible apply Or.inl); (refine ⟨rfl, rfl, ?_⟩); (conv => whnf)) | ((with_reducible apply Or.inl); (with_reducible apply And.intro); (focus (simp only [rng]; omega)); (conv => whnf)) | (refine ⟨by first | omega | (simp at hg ⊢; omega) | (simp_all; first | done | fail), ?_⟩; (conv => whnf)) | ((with_reducible refine ACall.id ?_); (refine PCall.call (by first | exact c74 _) rfl ?_); (intro x hx; first | subst hx | (obtain ⟨l_, rfl, hl_⟩ := hx.out)); (conv => whnf)) | (intro hlen; (conv => whnf))); done); (conv => whnf))
    | ((with_reducible apply Or.inl); (with_reducible apply And.intro); (focus (simp only [rng]; omega)); (conv => whnf))
    | ((with_reducible apply Or.inr); (with_reducible apply And.intro) <;> (intro hb; (try simp at hb); (try (exfalso; first | omega | (simp_all; first | done | fail))); (try (conv => whnf))))
    | ((with_reducible apply And.intro); (focus (first | omega | (exact True.intro) | (simp; omega) | (exact Nat.le_of_ble_eq_true rfl) | (exact ⟨rfl, Nat.le_of_ble_eq_true rfl⟩) | (exact ⟨Nat.le_of_ble_eq_true rfl, Nat.le_of_ble_eq_true rfl⟩) | (intro hg; first | (simp; first | done | fail) | (simp at hg ⊢; exact hg) | (simp at hg; exact hg) | exact hg))); (conv => whnf))
    | ((with_reducible apply And.intro) <;> (intro hb; (try simp at hb); (try (exfalso; first | omega | (simp_all; first | done | fail))); (try (conv => whnf))))
    | (intro hlen; (conv => whnf))
    | ((with_reducible refine And.intro (Side.out ?_) ?_); rotate_left; (conv => whnf); rotate_right)
  · rename_i hit
    simp only [← List.getD_eq_getElem?_getD] at hb
    rw [getT_some hit hb hw]; rfl
  · rename_i hit
    simp only [← List.getD_eq_getElem?_getD] at hb
    exact .mk (i + 1) ⟨by omega, fun j hj => by
      by_cases e : j = i
      · subst e; exact hb
      · exact hw j (by omega)⟩ (by show L.length - (i + 1) < L.length - i; omega) ⟨rfl, rfl, rfl, trivial, ⟨AV.le_refl _, AV.le_refl _, AV.le_refl _, AV.le_refl _, trivial⟩, rfl⟩
  · rw [getT_none fun j hj => hw j (by omega)]; rfl

/-! ### Languages of keys -/
def lower (c : UInt8) : Bool := decide (97 ≤ c.toNat) && decide (c.toNat ≤ 122)
def nameS : Str := [110, 97, 109, 101]
def name_S : Str := [110, 97, 109, 101, 95]
def langTail (l : Str) : Bool := l.all lower && decide (0 < l.length) && decide (l.length ≤ 8)
def lang (k : Str) : Option Str := if k = nameS then some [] else if name_S.isPrefixOf k && langTail (k.drop 5) then some (k.drop 5) else none
theorem lang_name : lang nameS = some [] := rfl
theorem lang_none {k : Str} (h : k ≠ nameS) (h2 : (name_S.isPrefixOf k && langTail (k.drop 5)) = false) : lang k = none := by unfold lang; rw [if_neg h, h2]; rfl
theorem lang_some {k : Str} (h : k ≠ nameS) (h2 : (name_S.isPrefixOf k && langTail (k.drop 5)) = true) : lang k = some (k.drop 5) := by unfold lang; rw [if_neg h, h2]; rfl
theorem pre5 (k : Str) : name_S.isPrefixOf k = true ↔ k.take 5 = name_S := by
  rw [List.isPrefixOf_iff_prefix, List.prefix_iff_eq_take]; exact eq_comm
theorem c40 (k : Str) : PCall Try.prog 40 [.d (.str k)] fun x => x = .tup [.d (.str ((lang k).getD [])), .d (.bool (lang k).isSome)] := by
  refine PCall.intro Try.tabOk Try.f40 _ Try.func40 rfl (by decide) rfl fun z => ?_
  repeat' first
    | (with_reducible refine AW.seq ?_)
    | ((with_reducible refine AW.region Try.tabOk ?_); (conv => whnf))
    | ((with_reducible refine AW.draw Try.tabOk Try.mixed ?_ ?_); (focus rfl); (conv => whnf))
    | ((with_reducible refine AW.ret ?_); (conv => whnf))
    | ((with_reducible refine AW.block ?_))
    | (with_reducible refine AW.scope ?_)
    | ((with_reducible refine AW.label ?_); (conv => whnf))
    | ((with_reducible refine AW.exit ?_); (conv => whnf))
    | ((with_reducible refine AW.skip ?_); (conv => whnf))
    | ((with_reducible refine AW.cond ?_); (conv => whnf))
    | ((with_reducible refine Own2.data ?_); (conv => whnf))
    | ((with_reducible refine ACall.id ?_); (refine PCall.call (by first | exact c74 _) rfl ?_); (intro x hx; first | subst hx | (obtain ⟨l_, rfl, hl_⟩ := hx.out)); (conv => whnf))
    | ((with_reducible refine ACall.freeze rfl ?_); (conv => whnf))
    | (refine ⟨true, _, rfl, ?_⟩; (conv => whnf))
    | (refine ⟨false, .nilp, rfl, ?_⟩; (conv => whnf))
    | (refine ⟨_, _, by first | exact c74 _, ?_⟩; (conv => whnf))
    | ((with_reducible apply Or.inl); (refine ⟨rfl, rfl, ?_⟩); (conv => whnf))
    | (refine ⟨_, ⟨rfl, rfl⟩, ?_⟩; (conv => whnf))
    | (refine ⟨_, ⟨rfl, getM (by first | omega | (simp; omega))⟩, ?_⟩; (conv => whnf))
    | ((with_reducible apply Or.inl); apply Exists.intro; apply And.intro; (focus (intro hg; (conv => whnf); (repeat' first | (with_reducible exact ⟨rfl, rfl⟩) | ((with_reducible refine Own2.data ?_); (conv => whnf)) | (refine ⟨true, _, rfl, ?_⟩; (conv => whnf)) | (refine ⟨false, .nilp, rfl, ?_⟩; (conv => whnf)) | (refine ⟨_, _, by first | exact c74 _, ?_⟩; (conv => whnf)) | ((with_reducible apply Or.inl); (refine ⟨rfl, rfl, ?_⟩); (conv => whnf)) | ((with_reducible apply Or.inl); (with_reducible apply And.intro); (focus (simp only [rng]; omega)); (conv => whnf)) | (refine ⟨by first | omega | (simp at hg ⊢; omega) | (simp_all; first | done | fail), ?_⟩; (conv => whnf)) | ((with_reducible refine ACall.id ?_); (refine PCall.call (by first | exact c74 _) rfl ?_); (intro x hx; first | subst hx | (obtain ⟨l_, rfl, hl_⟩ := hx.out)); (conv => whnf)) | (intro hlen; (conv => whnf))); done)); (conv => whnf))
    | (apply Exists.intro; apply And.intro; (focus (first | (intro hg; (conv => whnf)) | (conv => whnf)); (repeat' first | (with_reducible exact ⟨rfl, rfl⟩) | ((with_reducible refine Own2.data ?_); (conv => whnf)) | (refine ⟨true, _, rfl, ?_⟩; (conv => whnf)) | (refine ⟨false, .nilp, rfl, ?_⟩; (conv => whnf)) | (refine ⟨_, _, by first | exact c74 _, ?_⟩; (conv => whnf)) | ((with_reducible apply Or.inl); (refine ⟨rfl, rfl, ?_⟩); (conv => whnf)) | ((with_reducible apply Or.inl); (with_reducible apply And.intro); (focus (simp only [rng]; omega)); (conv => whnf)) | (refine ⟨by first | omega | (simp at hg ⊢; omega) | (simp_all; first | done | fail), ?_⟩; (conv => whnf)) | ((with_reducible refine ACall.id ?_); (refine PCall.call (by first | exact c74 _) rfl ?_); (intro x hx; first | subst hx | (obtain ⟨l_, rfl, hl_⟩ := hx.out)); (conv => whnf)) | (intro hlen; (conv => whnf))); done); (conv => whnf))
    | ((with_reducible apply Or.inl); (with_reducible apply And.intro); (focus (simp only [rng]; omega)); (conv => whnf))
    | ((with_reducible apply Or.inr); (with_reducible apply And.intro) <;> (intro hb; (try simp at hb); (try (exfalso; first | omega | (simp_all; first | done | fail))); (try (conv => whnf))))
    | ((with_reducible apply And.intro); (focus (first | omega | (exact True.intro) | (simp; omega) | (exact Nat.le_of_ble_eq_true rfl) | (exact ⟨rfl, Nat.le_of_ble_eq_true rfl⟩) | (exact ⟨Nat.le_of_ble_eq_true rfl, Nat.le_of_ble_eq_true rfl⟩) | (intro hg; first | (simp; first | done | fail) | (simp at hg ⊢; exact hg) | (simp at hg; exact hg) | exact hg))); (conv => whnf))
    | ((with_reducible apply And.intro) <;> (intro hb; (try simp at hb); (try (exfalso; first | omega | (simp_all; first | done | fail))); (try (conv => whnf))))
    | (intro hlen; (conv => whnf))
    | ((with_reducible refine And.intro (Side.out ?_) ?_); rotate_left; (conv => whnf); rotate_right)
  · rw [show k = nameS from hb]; rfl
  · rename_i hne
    rw [lang_none hne]
    · rfl
    · rw [Bool.eq_false_iff]; intro hc
      simp only [Bool.and_eq_true, langTail, decide_eq_true_eq, List.length_drop] at hc
      obtain ⟨h1, h2⟩ := hc
      rcases hb with hb | hb
      · omega
      · exact hb ((pre5 k).1 h1)
  rename_i hne
  obtain ⟨hl, hp⟩ := hb
  refine AW.loopX (X := Nat) (fun i => ⟨[(0, .d (.str k)), (4, .d (.int .i64 (i : Int)))], ⟨[], 0⟩, none, z⟩)
    (fun i => 5 ≤ i ∧ i ≤ k.length ∧ ∀ j, 5 ≤ j → j < i → lower (k.getD j 0) = true) (fun i => k.length - i) 5 ⟨by omega, by omega, fun j h => by omega⟩ ⟨rfl, rfl, rfl, trivial, ⟨AV.le_refl _, AV.le_refl _, trivial⟩⟩ ?_
  intro i ⟨hi0, hi, hw⟩
  repeat' first
    | (with_reducible refine AW.seq ?_)
    | ((with_reducible refine AW.region Try.tabOk ?_); (conv => whnf))
    | ((with_reducible refine AW.draw Try.tabOk Try.mixed ?_ ?_); (focus rfl); (conv => whnf))
    | ((with_reducible refine AW.ret ?_); (conv => whnf))
    | ((with_reducible refine AW.block ?_))
    | (with_reducible refine AW.scope ?_)
    | ((with_reducible refine AW.label ?_); (conv => whnf))
    | ((with_reducible refine AW.exit ?_); (conv => whnf))
    | ((with_reducible refine AW.skip ?_); (conv => whnf))
    | ((with_reducible refine AW.cond ?_); (conv => whnf))
    | ((with_reducible refine Own2.data ?_); (conv => whnf))
    | ((with_reducible refine ACall.id ?_); (refine PCall.call (by first | exact c74 _) rfl ?_); (intro x hx; first | subst hx | (obtain ⟨l_, rfl, hl_⟩ := hx.out)); (conv => whnf))
    | ((with_reducible refine ACall.freeze rfl ?_); (conv => whnf))
    | (refine ⟨true, _, rfl, ?_⟩; (conv => whnf))
    | (refine ⟨false, .nilp, rfl, ?_⟩; (conv => whnf))
    | (refine ⟨_, _, by first | exact c74 _, ?_⟩; (conv => whnf))
    | ((with_reducible apply Or.inl); (refine ⟨rfl, rfl, ?_⟩); (conv => whnf))
    | (refine ⟨_, ⟨rfl, rfl⟩, ?_⟩; (conv => whnf))
    | (refine ⟨_, ⟨rfl, getM (by first | omega | (simp; omega))⟩, ?_⟩; (conv => whnf))
    | ((with_reducible apply Or.inl); apply Exists.intro; apply And.intro; (focus (intro hg; (conv => whnf); (repeat' first | (with_reducible exact ⟨rfl, rfl⟩) | ((with_reducible refine Own2.data ?_); (conv => whnf)) | (refine ⟨true, _, rfl, ?_⟩; (conv => whnf)) | (refine ⟨false, .nilp, rfl, ?_⟩; (conv => whnf)) | (refine ⟨_, _, by first | exact c74 _, ?_⟩; (conv => whnf)) | ((with_reducible apply Or.inl); (refine ⟨rfl, rfl, ?_⟩); (conv => whnf)) | ((with_reducible apply Or.inl); (with_reducible apply And.intro); (focus (simp only [rng]; omega)); (conv => whnf)) | (refine ⟨by first | omega | (simp at hg ⊢; omega) | (simp_all; first | done | fail), ?_⟩; (conv => whnf)) | ((with_reducible refine ACall.id ?_); (refine PCall.call (by first | exact c74 _) rfl ?_); (intro x hx; first | subst hx | (obtain ⟨l_, rfl, hl_⟩ := hx.out)); (conv => whnf)) | (intro hlen; (conv => whnf))); done)); (conv => whnf))
    | (apply Exists.intro; apply And.intro; (focus (first | (intro hg; (conv => whnf)) | (conv => whnf)); (repeat' first | (with_reducible exact ⟨rfl, rfl⟩) | ((with_reducible refine Own2.data ?_); (conv => whnf)) | (refine ⟨true, _, rfl, ?_⟩; (conv => whnf)) | (refine ⟨false, .nilp, rfl, ?_⟩; (conv => whnf)) | (refine ⟨_, _, by first | exact c74 _, ?_⟩; (conv => whnf)) | ((with_reducible apply Or.inl); (refine ⟨rfl, rfl, ?_⟩); (conv => whnf)) | ((with_reducible apply Or.inl); (with_reducible apply And.intro); (focus (simp only [rng]; omega)); (conv => whnf)) | (refine ⟨by first | omega | (simp at hg ⊢; omega) | (simp_all; first | done | fail), ?_⟩; (conv => whnf)) | ((with_reducible refine ACall.id ?_); (refine PCall.call (by first | exact c74 _) rfl ?_); (intro x hx; first | subst hx | (obtain ⟨l_, rfl, hl_⟩ := hx.out)); (conv => whnf)) | (intro hlen; (conv => whnf))); done); (conv => whnf))
    | ((with_reducible apply Or.inl); (with_reducible apply And.intro); (focus (simp only [rng]; omega)); (conv => whnf))
    | ((with_reducible apply Or.inr); (with_reducible apply And.intro) <;> (intro hb; (try simp at hb); (try (exfalso; first | omega | (simp_all; first | done | fail))); (try (conv => whnf))))
    | ((with_reducible apply And.intro); (focus (first | omega | (exact True.intro) | (simp; omega) | (exact Nat.le_of_ble_eq_true rfl) | (exact ⟨rfl, Nat.le_of_ble_eq_true rfl⟩) | (exact ⟨Nat.le_of_ble_eq_true rfl, Nat.le_of_ble_eq_true rfl⟩) | (intro hg; first | (simp; first | done | fail) | (simp at hg ⊢; exact hg) | (simp at hg; exact hg) | exact hg))); (conv => whnf))
    | ((with_reducible apply And.intro) <;> (intro hb; (try simp at hb); (try (exfalso; first | omega | (simp_all; first | done | fail))); (try (conv => whnf))))
    | (intro hlen; (conv => whnf))
    | ((with_reducible refine And.intro (Side.out ?_) ?_); rotate_left; (conv => whnf); rotate_right)
  · rename_i hit
    rw [lang_none hne]
    · rfl
    · rw [Bool.eq_false_iff]; intro hc
      simp only [Bool.and_eq_true, langTail, decide_eq_true_eq, List.length_drop] at hc
      have := List.all_eq_true.1 hc.2.1.1 (k.getD i 0) (by
        rw [List.getD_eq_getElem?_getD, List.getElem?_eq_getElem hit]
        rw [List.mem_drop_iff_getElem]
        exact ⟨i - 5, by omega, by simp [show 5 + (i - 5) = i by omega]⟩)
      simp only [← List.getD_eq_getElem?_getD] at hb
      simp only [lower, Bool.and_eq_true, decide_eq_true_eq] at this
      omega
  · rename_i hit
    simp only [← List.getD_eq_getElem?_getD] at hb
    refine .mk (i + 1) ⟨by omega, by omega, fun j hj1 hj => ?_⟩ (by show k.length - (i + 1) < k.length - i; omega) ⟨rfl, rfl, rfl, trivial, ⟨AV.le_refl _, AV.le_refl _, trivial⟩⟩
    by_cases e : j = i
    · subst e; simp only [lower, Bool.and_eq_true, decide_eq_true_eq]; omega
    · exact hw j hj1 (by omega)
  · rw [lang_some hne]
    · rfl
    · have : (k.drop 5).all lower = true := all_of_getD 0 fun j hj => by
        rw [List.length_drop] at hj
        have := hw (5 + j) (by omega) (by omega)
        rwa [List.getD_eq_getElem?_getD, List.getElem?_drop, ← List.getD_eq_getElem?_getD]
      simp only [langTail, this, (pre5 k).2 hp, Bool.true_and, Bool.and_eq_true, decide_eq_true_eq, List.length_drop]
      omega
end Go.Proofs
end
section
/- Contracts: languages by runes; name tags. -/
namespace Go.Proofs
open Go.Pm
set_option maxRecDepth 100000

/-! ### Runes -/
theorem rune_size (s : Str) : (⟨s.toArray⟩ : ByteArray).size = s.length := by simp [ByteArray.size]
theorem rune_get {s : Str} {i : Nat} (h : i < s.length) : (⟨s.toArray⟩ : ByteArray).get! i = s.getD i 0 := by
  show s.toArray[i]! = _
  rw [getElem!_pos _ i (by simpa using h)]
  simp [List.getD_eq_getElem?_getD, h]
theorem bandL {a b : Bool} (h : (a && b) = true) : a = true := (Bool.and_eq_true a b ▸ h : _ ∧ _).1
theorem bandR {a b : Bool} (h : (a && b) = true) : b = true := (Bool.and_eq_true a b ▸ h : _ ∧ _).2
theorem rune_low {s : Str} {i : Nat} (h : i < s.length) (hc : (s.getD i 0).toNat < 128) : runeAt s i = ((s.getD i 0).toNat, 1) := by
  unfold runeAt Utf8.decode
  simp only [Nat.add_zero, rune_get h]
  rw [if_pos hc]
structure RuneHigh (s : Str) (i : Nat) : Prop where
  rune : 128 ≤ (runeAt s i).1
  pos : 0 < (runeAt s i).2
  end_ : i + (runeAt s i).2 ≤ s.length
  bytes : ∀ j, i ≤ j → j < i + (runeAt s i).2 → 128 ≤ (s.getD j 0).toNat
theorem rune_high {s : Str} {i : Nat} (h : i < s.length) (hc : 128 ≤ (s.getD i 0).toNat) : RuneHigh s i := by
  have cont : ∀ k, (i + k < (⟨s.toArray⟩ : ByteArray).size && ((⟨s.toArray⟩ : ByteArray).get! (i + k)).toNat / 64 == 2) = true → i + k < s.length ∧ 128 ≤ (s.getD (i + k) 0).toNat := by
    intro k hk
    simp only [Bool.and_eq_true, decide_eq_true_eq, beq_iff_eq, rune_size] at hk
    rw [rune_get hk.1] at hk
    exact ⟨hk.1, by omega⟩
  have one : ∀ r : Nat, 128 ≤ r → ∀ p : Nat × Nat, p = (r, 1) → runeAt s i = p → RuneHigh s i := by
    intro r hr p hp he
    subst hp
    refine ⟨by rw [he]; exact hr, by rw [he]; exact Nat.one_pos, by rw [he]; exact h, fun j h1 h2 => ?_⟩
    rw [he] at h2
    have : j = i := by simp at h2; omega
    rw [this]; exact hc
  obtain ⟨p, hp⟩ : ∃ p, runeAt s i = p := ⟨_, rfl⟩
  have hp0 := hp
  unfold runeAt Utf8.decode at hp
  simp only [Nat.add_zero, rune_get h] at hp
  rw [if_neg (by omega)] at hp
  have err : 128 ≤ Utf8.runeError := by decide
  split at hp
  · rename_i hc2
    have c1 := cont 1 (bandR hc2)
    split at hp
    · rename_i hge
      refine ⟨by rw [hp0, ← hp]; exact hge, by rw [hp0, ← hp]; exact Nat.two_pos, by rw [hp0, ← hp]; show i + 2 ≤ _; omega, fun j h1 h2 => ?_⟩
      rw [hp0, ← hp] at h2
      have : j = i ∨ j = i + 1 := by simp at h2; omega
      rcases this with rfl | rfl
      · exact hc
      · exact c1.2
    · exact one _ err _ hp.symm hp0
  · split at hp
    · rename_i hc2
      have c1 := cont 1 (bandR (bandL hc2))
      have c2 := cont 2 (bandR hc2)
      split at hp
      · rename_i hge
        have hge := bandL hge
        refine ⟨by rw [hp0, ← hp]; have := of_decide_eq_true hge; show 128 ≤ _; omega, by rw [hp0, ← hp]; exact Nat.succ_pos _, by rw [hp0, ← hp]; show i + 3 ≤ _; omega, fun j h1 h2 => ?_⟩
        rw [hp0, ← hp] at h2
        have : j = i ∨ j = i + 1 ∨ j = i + 2 := by simp at h2; omega
        rcases this with rfl | rfl | rfl
        · exact hc
        · exact c1.2
        · exact c2.2
      · exact one _ err _ hp.symm hp0
    · split at hp
      · rename_i hc2
        have c3 := cont 3 (bandR hc2)
        have hc2 := bandL hc2
        have c2 := cont 2 (bandR hc2)
        have hc2 := bandL hc2
        have c1 := cont 1 (bandR hc2)
        split at hp
        · rename_i hge
          have hge := bandL hge
          refine ⟨by rw [hp0, ← hp]; have := of_decide_eq_true hge; show 128 ≤ _; omega, by rw [hp0, ← hp]; exact Nat.succ_pos _, by rw [hp0, ← hp]; show i + 4 ≤ _; omega, fun j h1 h2 => ?_⟩
          rw [hp0, ← hp] at h2
          have : j = i ∨ j = i + 1 ∨ j = i + 2 ∨ j = i + 3 := by simp at h2; omega
          rcases this with rfl | rfl | rfl | rfl
          · exact hc
          · exact c1.2
          · exact c2.2
          · exact c3.2
        · exact one _ err _ hp.symm hp0
      · exact one _ err _ hp.symm hp0

theorem all_take_step {p : UInt8 → Bool} {s : Str} {i w : Nat} (hw : 0 < w) (hi : i + w ≤ s.length) (r : Bool) (h1 : r = true → ∀ j, i ≤ j → j < i + w → p (s.getD j 0) = true) (h2 : r = false → p (s.getD i 0) = false) :
    (s.take (i + w)).all p = ((s.take i).all p && r) := by
  rw [List.take_add, List.all_append]
  congr 1
  cases r with
  | true =>
    refine all_of_getD 0 fun j hj => ?_
    have hj' : j < w := by have := List.length_take_le w (s.drop i); omega
    have := h1 rfl (i + j) (by omega) (by omega)
    rw [List.getD_eq_getElem?_getD, List.getElem?_take, if_pos hj', List.getElem?_drop, ← List.getD_eq_getElem?_getD]
    exact this
  | false =>
    refine not_all_of_getD 0 (j := 0) (by rw [List.length_take, List.length_drop]; omega) ?_
    rw [List.getD_eq_getElem?_getD, List.getElem?_take, if_pos hw, List.getElem?_drop, ← List.getD_eq_getElem?_getD]
    exact h2 rfl
theorem rune_lower {s : Str} {i : Nat} (hi : i < s.length) : (s.take (i + (runeAt s i).2)).all lower = ((s.take i).all lower && (decide (97 ≤ (runeAt s i).1) && decide ((runeAt s i).1 ≤ 122))) := by
  by_cases hc : (s.getD i 0).toNat < 128
  · rw [rune_low hi hc]
    refine all_take_step Nat.one_pos (by show i + 1 ≤ _; omega) _ (fun h j h1 h2 => ?_) (fun h => h)
    have h2 : j < i + 1 := h2
    have : j = i := by omega
    subst this; exact h
  · have hh := rune_high hi (by omega)
    have h128 := hh.rune
    refine all_take_step hh.pos hh.end_ _ (fun h => ?_) (fun _ => ?_)
    · simp only [Bool.and_eq_true, decide_eq_true_eq] at h; omega
    · simp only [lower, Bool.and_eq_false_iff, decide_eq_false_iff_not]; omega
theorem rune_step {s : Str} {i : Nat} (hi : i < s.length) : 0 < (runeAt s i).2 ∧ i + (runeAt s i).2 ≤ s.length := by
  by_cases hc : (s.getD i 0).toNat < 128
  · rw [rune_low hi hc]; exact ⟨Nat.one_pos, hi⟩
  · exact ⟨(rune_high hi (by omega)).pos, (rune_high hi (by omega)).end_⟩

structure LangRes (k : Str) (x : AV) : Prop where
  out : ∃ l, x = .tup [.d (.str l), .d (.bool (lang k).isSome)] ∧ ∀ v, lang k = some v → l = v
theorem c104 (k : Str) : PCall Try.prog 104 [.d (.str k)] (LangRes k) := by
  refine PCall.intro Try.tabOk Try.f104 _ Try.func104 rfl (by decide) rfl fun z => ?_
  repeat' first
    | (with_reducible refine AW.seq ?_)
    | ((with_reducible refine AW.region Try.tabOk ?_); (conv => whnf))
    | ((with_reducible refine AW.draw Try.tabOk Try.mixed ?_ ?_); (focus rfl); (conv => whnf))
    | ((with_reducible refine AW.ret ?_); (conv => whnf))
    | ((with_reducible refine AW.block ?_))
    | (with_reducible refine AW.scope ?_)
    | ((with_reducible refine AW.label ?_); (conv => whnf))
    | ((with_reducible refine AW.exit ?_); (conv => whnf))
    | ((with_reducible refine AW.skip ?_); (conv => whnf))
    | ((with_reducible refine AW.cond ?_); (conv => whnf))
    | ((with_reducible refine Own2.data ?_); (conv => whnf))
    | ((with_reducible refine ACall.id ?_); (refine PCall.call (by first | exact c114 _ _) rfl ?_); (intro x hx; first | subst hx | (obtain ⟨l_, rfl, hl_⟩ := hx.out)); (conv => whnf))
    | ((with_reducible refine ACall.freeze rfl ?_); (conv => whnf))
    | (refine ⟨true, _, rfl, ?_⟩; (conv => whnf))
    | (refine ⟨false, .nilp, rfl, ?_⟩; (conv => whnf))
    | (refine ⟨_, _, by first | exact c114 _ _, ?_⟩; (conv => whnf))
    | ((with_reducible apply Or.inl); (refine ⟨rfl, rfl, ?_⟩); (conv => whnf))
    | (refine ⟨_, ⟨rfl, rfl⟩, ?_⟩; (conv => whnf))
    | (refine ⟨_, ⟨rfl, getM (by first | omega | (simp; omega))⟩, ?_⟩; (conv => whnf))
    | ((with_reducible apply Or.inl); apply Exists.intro; apply And.intro; (focus (intro hg; (conv => whnf); (repeat' first | (with_reducible exact ⟨rfl, rfl⟩) | ((with_reducible refine Own2.data ?_); (conv => whnf)) | (refine ⟨true, _, rfl, ?_⟩; (conv => whnf)) | (refine ⟨false, .nilp, rfl, ?_⟩; (conv => whnf)) | (refine ⟨_, _, by first | exact c114 _ _, ?_⟩; (conv => whnf)) | ((with_reducible apply Or.inl); (refine ⟨rfl, rfl, ?_⟩); (conv => whnf)) | ((with_reducible apply Or.inl); (with_reducible apply And.intro); (focus (simp only [rng]; omega)); (conv => whnf)) | (refine ⟨by first | omega | (simp at hg ⊢; omega) | (simp_all; first | done | fail), ?_⟩; (conv => whnf)) | ((with_reducible refine ACall.id ?_); (refine PCall.call (by first | exact c114 _ _) rfl ?_); (intro x hx; first | subst hx | (obtain ⟨l_, rfl, hl_⟩ := hx.out)); (conv => whnf)) | (intro hlen; (conv => whnf))); done)); (conv => whnf))
    | (apply Exists.intro; apply And.intro; (focus (first | (intro hg; (conv => whnf)) | (conv => whnf)); (repeat' first | (with_reducible exact ⟨rfl, rfl⟩) | ((with_reducible refine Own2.data ?_); (conv => whnf)) | (refine ⟨true, _, rfl, ?_⟩; (conv => whnf)) | (refine ⟨false, .nilp, rfl, ?_⟩; (conv => whnf)) | (refine ⟨_, _, by first | exact c114 _ _, ?_⟩; (conv => whnf)) | ((with_reducible apply Or.inl); (refine ⟨rfl, rfl, ?_⟩); (conv => whnf)) | ((with_reducible apply Or.inl); (with_reducible apply And.intro); (focus (simp only [rng]; omega)); (conv => whnf)) | (refine ⟨by first | omega | (simp at hg ⊢; omega) | (simp_all; first | done | fail), ?_⟩; (conv => whnf)) | ((with_reducible refine ACall.id ?_); (refine PCall.call (by first | exact c114 _ _) rfl ?_); (intro x hx; first | subst hx | (obtain ⟨l_, rfl, hl_⟩ := hx.out)); (conv => whnf)) | (intro hlen; (conv => whnf))); done); (conv => whnf))
    | ((with_reducible apply Or.inl); (with_reducible apply And.intro); (focus (simp only [rng]; omega)); (conv => whnf))
    | ((with_reducible apply Or.inr); (with_reducible apply And.intro) <;> (intro hb; (try simp at hb); (try (exfalso; first | omega | (simp_all; first | done | fail))); (try (conv => whnf))))
    | ((with_reducible apply And.intro); (focus (first | omega | (exact True.intro) | (simp; omega) | (exact Nat.le_of_ble_eq_true rfl) | (exact ⟨rfl, Nat.le_of_ble_eq_true rfl⟩) | (exact ⟨Nat.le_of_ble_eq_true rfl, Nat.le_of_ble_eq_true rfl⟩) | (intro hg; first | (simp; first | done | fail) | (simp at hg ⊢; exact hg) | (simp at hg; exact hg) | exact hg))); (conv => whnf))
    | ((with_reducible apply And.intro) <;> (intro hb; (try simp at hb); (try (exfalso; first | omega | (simp_all; first | done | fail))); (try (conv => whnf))))
    | (intro hlen; (conv => whnf))
    | ((with_reducible refine And.intro (Side.out ?_) ?_); rotate_left; (conv => whnf); rotate_right)
  · exact ⟨[], by rw [show k = nameS from hb]; rfl, fun v hv => by rw [show k = nameS from hb, lang_name] at hv; injection hv⟩
  have hne : ¬ k = nameS := by assumption
  obtain ⟨l, hl⟩ : ∃ l, (if name_S.isPrefixOf k = true then k.drop 5 else k) = l := ⟨_, rfl⟩
  refine AW.loopX (X := Nat) (fun i => ⟨[(4, .d (.str l)), (5, .d (.bool (name_S.isPrefixOf k && (l.take i).all lower))), (16, .ptr 0 0)], ⟨[(0, .siter l i)], 1⟩, none, z⟩)
    (fun i => i ≤ l.length) (fun i => l.length - i) 0 (Nat.zero_le _) ⟨rfl, rfl, rfl, ⟨OLe.of (congrArg (AObj.siter · 0) hl), trivial⟩, ⟨AV.le_of_eq (congrArg (fun x => AV.d (.str x)) hl), AV.le_of_eq (by simp; rfl), AV.le_refl _, trivial⟩⟩ ?_
  intro i hi
  repeat' first
    | (with_reducible refine AW.seq ?_)
    | ((with_reducible refine AW.region Try.tabOk ?_); (conv => whnf))
    | ((with_reducible refine AW.draw Try.tabOk Try.mixed ?_ ?_); (focus rfl); (conv => whnf))
    | ((with_reducible refine AW.ret ?_); (conv => whnf))
    | ((with_reducible refine AW.block ?_))
    | (with_reducible refine AW.scope ?_)
    | ((with_reducible refine AW.label ?_); (conv => whnf))
    | ((with_reducible refine AW.exit ?_); (conv => whnf))
    | ((with_reducible refine AW.skip ?_); (conv => whnf))
    | ((with_reducible refine AW.cond ?_); (conv => whnf))
    | ((with_reducible refine Own2.data ?_); (conv => whnf))
    | ((with_reducible refine ACall.id ?_); (refine PCall.call (by first | exact c114 _ _) rfl ?_); (intro x hx; first | subst hx | (obtain ⟨l_, rfl, hl_⟩ := hx.out)); (conv => whnf))
    | ((with_reducible refine ACall.freeze rfl ?_); (conv => whnf))
    | (refine ⟨true, _, rfl, ?_⟩; (conv => whnf))
    | (refine ⟨false, .nilp, rfl, ?_⟩; (conv => whnf))
    | (refine ⟨_, _, by first | exact c114 _ _, ?_⟩; (conv => whnf))
    | ((with_reducible apply Or.inl); (refine ⟨rfl, rfl, ?_⟩); (conv => whnf))
    | (refine ⟨_, ⟨rfl, rfl⟩, ?_⟩; (conv => whnf))
    | (refine ⟨_, ⟨rfl, getM (by first | omega | (simp; omega))⟩, ?_⟩; (conv => whnf))
    | ((with_reducible apply Or.inl); apply Exists.intro; apply And.intro; (focus (intro hg; (conv => whnf); (repeat' first | (with_reducible exact ⟨rfl, rfl⟩) | ((with_reducible refine Own2.data ?_); (conv => whnf)) | (refine ⟨true, _, rfl, ?_⟩; (conv => whnf)) | (refine ⟨false, .nilp, rfl, ?_⟩; (conv => whnf)) | (refine ⟨_, _, by first | exact c114 _ _, ?_⟩; (conv => whnf)) | ((with_reducible apply Or.inl); (refine ⟨rfl, rfl, ?_⟩); (conv => whnf)) | ((with_reducible apply Or.inl); (with_reducible apply And.intro); (focus (simp only [rng]; omega)); (conv => whnf)) | (refine ⟨by first | omega | (simp at hg ⊢; omega) | (simp_all; first | done | fail), ?_⟩; (conv => whnf)) | ((with_reducible refine ACall.id ?_); (refine PCall.call (by first | exact c114 _ _) rfl ?_); (intro x hx; first | subst hx | (obtain ⟨l_, rfl, hl_⟩ := hx.out)); (conv => whnf)) | (intro hlen; (conv => whnf))); done)); (conv => whnf))
    | (apply Exists.intro; apply And.intro; (focus (first | (intro hg; (conv => whnf)) | (conv => whnf)); (repeat' first | (with_reducible exact ⟨rfl, rfl⟩) | ((with_reducible refine Own2.data ?_); (conv => whnf)) | (refine ⟨true, _, rfl, ?_⟩; (conv => whnf)) | (refine ⟨false, .nilp, rfl, ?_⟩; (conv => whnf)) | (refine ⟨_, _, by first | exact c114 _ _, ?_⟩; (conv => whnf)) | ((with_reducible apply Or.inl); (refine ⟨rfl, rfl, ?_⟩); (conv => whnf)) | ((with_reducible apply Or.inl); (with_reducible apply And.intro); (focus (simp only [rng]; omega)); (conv => whnf)) | (refine ⟨by first | omega | (simp at hg ⊢; omega) | (simp_all; first | done | fail), ?_⟩; (conv => whnf)) | ((with_reducible refine ACall.id ?_); (refine PCall.call (by first | exact c114 _ _) rfl ?_); (intro x hx; first | subst hx | (obtain ⟨l_, rfl, hl_⟩ := hx.out)); (conv => whnf)) | (intro hlen; (conv => whnf))); done); (conv => whnf))
    | ((with_reducible apply Or.inl); (with_reducible apply And.intro); (focus (simp only [rng]; omega)); (conv => whnf))
    | ((with_reducible apply Or.inr); (with_reducible apply And.intro) <;> (intro hb; (try simp at hb); (try (exfalso; first | omega | (simp_all; first | done | fail))); (try (conv => whnf))))
    | ((with_reducible apply And.intro); (focus (first | omega | (exact True.intro) | (simp; omega) | (exact Nat.le_of_ble_eq_true rfl) | (exact ⟨rfl, Nat.le_of_ble_eq_true rfl⟩) | (exact ⟨Nat.le_of_ble_eq_true rfl, Nat.le_of_ble_eq_true rfl⟩) | (intro hg; first | (simp; first | done | fail) | (simp at hg ⊢; exact hg) | (simp at hg; exact hg) | exact hg))); (conv => whnf))
    | ((with_reducible apply And.intro) <;> (intro hb; (try simp at hb); (try (exfalso; first | omega | (simp_all; first | done | fail))); (try (conv => whnf))))
    | (intro hlen; (conv => whnf))
    | ((with_reducible refine And.intro (Side.out ?_) ?_); rotate_left; (conv => whnf); rotate_right)
  · have hs := rune_step hb
    refine .mk (i + (runeAt l i).2) hs.2 (by show l.length - (i + (runeAt l i).2) < l.length - i; omega) ⟨rfl, rfl, rfl, ⟨OLe.refl _, trivial⟩, ⟨AV.le_refl _, AV.le_of_eq ?_, AV.le_refl _, trivial⟩⟩
    rw [rune_lower hb]
    show AV.d (.bool _) = _
    congr 2
    rw [bif_and, bif_and, Bool.and_assoc, Bool.and_assoc]
    congr 2
    rw [Bool.eq_iff_iff]; simp only [Bool.and_eq_true, decide_eq_true_eq]; omega
  · have hi2 : i = l.length := by omega
    subst hi2
    rw [List.take_length, bif_and, bif_and]
    cases hp : name_S.isPrefixOf k with
    | false => exact ⟨_, by rw [lang_none hne (by rw [hp]; rfl)]; rfl, fun v hv => by rw [lang_none hne (by rw [hp]; rfl)] at hv; cases hv⟩
    | true =>
      rw [if_pos hp] at hl
      subst hl
      have e : (true && (k.drop 5).all lower && decide (((k.drop 5).length : Int) > 0) && decide (((k.drop 5).length : Int) ≤ 8)) = langTail (k.drop 5) := by
        unfold langTail
        rw [Bool.eq_iff_iff]; simp only [Bool.and_eq_true, decide_eq_true_eq]
        constructor
        · rintro ⟨⟨⟨_, h1⟩, h2⟩, h3⟩; exact ⟨⟨h1, by omega⟩, by omega⟩
        · rintro ⟨⟨h1, h2⟩, h3⟩; exact ⟨⟨⟨trivial, h1⟩, by omega⟩, by omega⟩
      rw [e]
      cases ht : langTail (k.drop 5) with
      | false => exact ⟨_, by rw [lang_none hne (by rw [hp, ht]; rfl)]; rfl, fun v hv => by rw [lang_none hne (by rw [hp, ht]; rfl)] at hv; cases hv⟩
      | true => exact ⟨_, by rw [lang_some hne (by rw [hp, ht]; rfl)]; rfl, fun v hv => by rw [lang_some hne (by rw [hp, ht]; rfl)] at hv; injection hv⟩
end Go.Proofs
end
section
/- Contracts: languages and the best name. -/
namespace Go.Proofs
open Go.Pm
set_option maxRecDepth 100000

/-- A slice that is returned: nil, or a row given away. -/
structure SlRes (sz : Nat) (l : List D) (x : AV) : Prop where
  or : x = .d (.list sz l) ∨ (l = [] ∧ x = .d .nils)
theorem SlRes.row {sz : Nat} {l : List D} : SlRes sz l (.d (.list sz l)) := ⟨.inl rfl⟩
theorem SlRes.nil {sz : Nat} {l : List D} (h : l = []) : SlRes sz l (.d .nils) := ⟨.inr ⟨h, rfl⟩⟩
theorem PCall.tab {P : Program} {f : FuncId} {args : List AV} {sz : Nat} {l : List D} {n : Nat} {g : Nat → D} (hn : l.length = n) (hg : ∀ (i : Nat) (x : D), l[i]? = some x → x = g i) (h : PCall P f args (SlRes sz l)) : PCall P f args fun x => x = .d (.tab sz n g) := by
  refine h.conv fun x hx => ⟨_, rfl, rfl, ?_⟩
  rcases hx.or with rfl | ⟨rfl, rfl⟩
  · exact AV.le_tab hn hg
  · subst hn; exact AV.le_nils_tab
theorem PCall.strs {P : Program} {f : FuncId} {args : List AV} {L : List Str} (h : PCall P f args (SlRes 1 (L.map D.str))) : PCall P f args fun x => x = .d (encStrs L) :=
  PCall.tab (by simp) (fun i x hx => by
    rw [List.getElem?_map, Option.map_eq_some_iff] at hx
    obtain ⟨s, hs, rfl⟩ := hx
    rw [List.getD_eq_getElem?_getD, hs]
    rfl) h

def langs (L : List (Str × Str)) : List Str := L.filterMap fun p => lang p.1
def langsV (L : List (Str × Str)) : List Str := if tagsB L then langs L else []
theorem take_succ_getD {α : Type} (L : List α) (i : Nat) (d : α) (h : i < L.length) : L.take (i + 1) = L.take i ++ [L.getD i d] := by
  rw [List.take_add_one, List.getElem?_eq_getElem h, List.getD_eq_getElem?_getD, List.getElem?_eq_getElem h]; rfl
theorem langs_step {L : List (Str × Str)} {i : Nat} (h : i < L.length) : langs (L.take (i + 1)) = langs (L.take i) ++ (lang (L.getD i dT).1).toList := by
  rw [take_succ_getD L i dT h, langs, List.filterMap_append]
  congr 1
theorem langs_len (L : List (Str × Str)) : (langs L).length ≤ L.length := List.length_filterMap_le _ _
theorem some_of_isSome {k l : Str} (h : (lang k).isSome = true) (hl : ∀ v, lang k = some v → l = v) : lang k = some l := by
  cases hk : lang k with
  | none => rw [hk] at h; cases h
  | some v => rw [hl v hk]
theorem c38 (L : List (Str × Str)) : PCall Try.prog 38 [.d (encTags L)] fun x => x = .d (encStrs (langsV L)) := by
  refine PCall.strs ?_
  refine PCall.intro Try.tabOk Try.f38 _ Try.func38 rfl (by decide) rfl fun z => ?_
  repeat' first
    | (with_reducible refine AW.seq ?_)
    | ((with_reducible refine AW.region Try.tabOk ?_); (conv => whnf))
    | ((with_reducible refine AW.draw Try.tabOk Try.mixed ?_ ?_); (focus rfl); (conv => whnf))
    | ((with_reducible refine AW.ret ?_); (conv => whnf))
    | ((with_reducible refine AW.block ?_))
    | (with_reducible refine AW.scope ?_)
    | ((with_reducible refine AW.label ?_); (conv => whnf))
    | ((with_reducible refine AW.exit ?_); (conv => whnf))
    | ((with_reducible refine AW.skip ?_); (conv => whnf))
    | ((with_reducible refine AW.cond ?_); (conv => whnf))
    | ((with_reducible refine AW.rangeFunc rfl ?_); intro fn_; (conv => whnf); (refine And.intro ⟨Try.f103, Try.func103, by decide, rfl⟩ ?_); (refine ACall.intro Try.tabOk Try.f103 _ Try.func103 rfl (by decide) rfl ?_); intro z_)
    | ((with_reducible refine AYield.id ?_); (refine AYield.intro rfl rfl rfl ?_); intro z_)
    | ((with_reducible refine Own2.data ?_); (conv => whnf))
    | ((with_reducible refine ACall.id ?_); (refine PCall.call (by first | exact c37 _) rfl ?_); (intro x hx; first | subst hx | (obtain ⟨l_, rfl, hl_⟩ := hx.out)); (conv => whnf))
    | ((with_reducible refine ACall.id ?_); (refine ACall.intro Try.tabOk Try.f75 _ Try.func75 rfl (by decide) rfl ?_); intro z_)
    | ((with_reducible refine ACall.freeze rfl ?_); (conv => whnf))
    | (refine ⟨true, _, rfl, ?_⟩; (conv => whnf))
    | (refine ⟨false, .nilp, rfl, ?_⟩; (conv => whnf))
    | (refine ⟨_, _, by first | exact c37 _, ?_⟩; (conv => whnf))
    | ((with_reducible apply Or.inl); (refine ⟨rfl, rfl, ?_⟩); (conv => whnf))
    | (refine ⟨_, ⟨rfl, rfl⟩, ?_⟩; (conv => whnf))
    | (refine ⟨_, ⟨rfl, getM (by first | omega | (simp; omega))⟩, ?_⟩; (conv => whnf))
    | ((with_reducible apply Or.inl); apply Exists.intro; apply And.intro; (focus (intro hg; (conv => whnf); (repeat' first | (with_reducible exact ⟨rfl, rfl⟩) | ((with_reducible refine Own2.data ?_); (conv => whnf)) | (refine ⟨true, _, rfl, ?_⟩; (conv => whnf)) | (refine ⟨false, .nilp, rfl, ?_⟩; (conv => whnf)) | (refine ⟨_, _, by first | exact c37 _, ?_⟩; (conv => whnf)) | ((with_reducible apply Or.inl); (refine ⟨rfl, rfl, ?_⟩); (conv => whnf)) | ((with_reducible apply Or.inl); (with_reducible apply And.intro); (focus (simp only [rng]; omega)); (conv => whnf)) | (refine ⟨by first | omega | (simp at hg ⊢; omega) | (simp_all; first | done | fail), ?_⟩; (conv => whnf)) | ((with_reducible refine ACall.id ?_); (refine PCall.call (by first | exact c37 _) rfl ?_); (intro x hx; first | subst hx | (obtain ⟨l_, rfl, hl_⟩ := hx.out)); (conv => whnf)) | (intro hlen; (conv => whnf))); done)); (conv => whnf))
    | (apply Exists.intro; apply And.intro; (focus (first | (intro hg; (conv => whnf)) | (conv => whnf)); (repeat' first | (with_reducible exact ⟨rfl, rfl⟩) | ((with_reducible refine Own2.data ?_); (conv => whnf)) | (refine ⟨true, _, rfl, ?_⟩; (conv => whnf)) | (refine ⟨false, .nilp, rfl, ?_⟩; (conv => whnf)) | (refine ⟨_, _, by first | exact c37 _, ?_⟩; (conv => whnf)) | ((with_reducible apply Or.inl); (refine ⟨rfl, rfl, ?_⟩); (conv => whnf)) | ((with_reducible apply Or.inl); (with_reducible apply And.intro); (focus (simp only [rng]; omega)); (conv => whnf)) | (refine ⟨by first | omega | (simp at hg ⊢; omega) | (simp_all; first | done | fail), ?_⟩; (conv => whnf)) | ((with_reducible refine ACall.id ?_); (refine PCall.call (by first | exact c37 _) rfl ?_); (intro x hx; first | subst hx | (obtain ⟨l_, rfl, hl_⟩ := hx.out)); (conv => whnf)) | (intro hlen; (conv => whnf))); done); (conv => whnf))
    | ((with_reducible apply Or.inl); (with_reducible apply And.intro); (focus (simp only [rng]; omega)); (conv => whnf))
    | ((with_reducible apply Or.inr); (with_reducible apply And.intro) <;> (intro hb; (try simp at hb); (try (exfalso; first | omega | (simp_all; first | done | fail))); (try (conv => whnf))))
    | ((with_reducible apply And.intro); (focus (first | omega | (exact True.intro) | (simp; omega) | (exact Nat.le_of_ble_eq_true rfl) | (exact ⟨rfl, Nat.le_of_ble_eq_true rfl⟩) | (exact ⟨Nat.le_of_ble_eq_true rfl, Nat.le_of_ble_eq_true rfl⟩) | (intro hg; first | (simp; first | done | fail) | (simp at hg ⊢; exact hg) | (simp at hg; exact hg) | exact hg))); (conv => whnf))
    | ((with_reducible apply And.intro) <;> (intro hb; (try simp at hb); (try (exfalso; first | omega | (simp_all; first | done | fail))); (try (conv => whnf))))
    | (intro hlen; (conv => whnf))
    | ((with_reducible refine And.intro (Side.out ?_) ?_); rotate_left; (conv => whnf); rotate_right)
  · exact .nil (by simp [langsV, hb])
  have hL : L.length ≤ 60 := by
    have : tagsB L = true := by assumption
    simp only [tagsB, Bool.and_eq_true, decide_eq_true_eq] at this; exact this.2
  have hV : langsV L = langs L := by have : tagsB L = true := by assumption
                                     simp [langsV, this]
  refine AW.loopS (X := Nat × Nat) [8, 7, 0, 1] [1, 2] (fun x => [(9, .d (.int .i64 (x.1 : Int)))]) (fun x => match x.2 with
      | 0 => [(0, .var [.d .nils] 39)]
      | v + 1 => [(0, .var [.own 5 (v + 1) 1] 39), (5, .row 9 1 ((langs (L.take x.1)).map .str) (v + 1))]) (fun x => match x.2 with | 0 => 3 | _ + 1 => 6)
    (fun x => x.1 ≤ L.length ∧ (x.2 = 0 ↔ langs (L.take x.1) = [])) (fun x => L.length - x.1) (0, 0) ⟨Nat.zero_le _, by simp [langs]⟩ (fun x _ => by rcases x with ⟨_, _ | _⟩ <;> rfl) (by refine ⟨rfl, rfl, rfl, ?_, ?_⟩ <;> repeat' (first | exact trivial | exact OLe.refl _ | exact AV.le_refl _ | apply And.intro)) ?_
  intro ⟨i, v⟩ ⟨hi, hv⟩
  dsimp only at hi hv
  have hll := langs_len (L.take i)
  rw [List.length_take] at hll
  cases v with
  | zero =>
    have hnil : langs (L.take i) = [] := hv.1 rfl
    repeat' first
      | (with_reducible refine AW.seq ?_)
      | ((with_reducible refine AW.region Try.tabOk ?_); (conv => whnf))
      | ((with_reducible refine AW.draw Try.tabOk Try.mixed ?_ ?_); (focus rfl); (conv => whnf))
      | ((with_reducible refine AW.ret ?_); (conv => whnf))
      | ((with_reducible refine AW.block ?_))
      | (with_reducible refine AW.scope ?_)
      | ((with_reducible refine AW.label ?_); (conv => whnf))
      | ((with_reducible refine AW.exit ?_); (conv => whnf))
      | ((with_reducible refine AW.skip ?_); (conv => whnf))
      | ((with_reducible refine AW.cond ?_); (conv => whnf))
      | ((with_reducible refine AW.rangeFunc rfl ?_); intro fn_; (conv => whnf); (refine And.intro ⟨Try.f103, Try.func103, by decide, rfl⟩ ?_); (refine ACall.intro Try.tabOk Try.f103 _ Try.func103 rfl (by decide) rfl ?_); intro z_)
      | ((with_reducible refine AYield.id ?_); (refine AYield.intro rfl rfl rfl ?_); intro z_)
      | ((with_reducible refine Own2.data ?_); (conv => whnf))
      | ((with_reducible refine ACall.id ?_); (refine PCall.call (by first | exact c104 _) rfl ?_); (intro x hx; first | subst hx | (obtain ⟨l_, rfl, hl_⟩ := hx.out)); (conv => whnf))
      | ((with_reducible refine ACall.freeze rfl ?_); (conv => whnf))
      | (refine ⟨true, _, rfl, ?_⟩; (conv => whnf))
      | (refine ⟨false, .nilp, rfl, ?_⟩; (conv => whnf))
      | (refine ⟨_, _, by first | exact c104 _, ?_⟩; (conv => whnf))
      | ((with_reducible apply Or.inl); (refine ⟨rfl, rfl, ?_⟩); (conv => whnf))
      | (refine ⟨_, ⟨rfl, rfl⟩, ?_⟩; (conv => whnf))
      | (refine ⟨_, ⟨rfl, getM (by first | omega | (simp; omega))⟩, ?_⟩; (conv => whnf))
      | ((with_reducible apply Or.inl); apply Exists.intro; apply And.intro; (focus (intro hg; (conv => whnf); (repeat' first | (with_reducible exact ⟨rfl, rfl⟩) | ((with_reducible refine Own2.data ?_); (conv => whnf)) | (refine ⟨true, _, rfl, ?_⟩; (conv => whnf)) | (refine ⟨false, .nilp, rfl, ?_⟩; (conv => whnf)) | (refine ⟨_, _, by first | exact c104 _, ?_⟩; (conv => whnf)) | ((with_reducible apply Or.inl); (refine ⟨rfl, rfl, ?_⟩); (conv => whnf)) | ((with_reducible apply Or.inl); (with_reducible apply And.intro); (focus (simp only [rng]; omega)); (conv => whnf)) | (refine ⟨by first | omega | (simp at hg ⊢; omega) | (simp_all; first | done | fail), ?_⟩; (conv => whnf)) | ((with_reducible refine ACall.id ?_); (refine PCall.call (by first | exact c104 _) rfl ?_); (intro x hx; first | subst hx | (obtain ⟨l_, rfl, hl_⟩ := hx.out)); (conv => whnf)) | (intro hlen; (conv => whnf))); done)); (conv => whnf))
      | (apply Exists.intro; apply And.intro; (focus (first | (intro hg; (conv => whnf)) | (conv => whnf)); (repeat' first | (with_reducible exact ⟨rfl, rfl⟩) | ((with_reducible refine Own2.data ?_); (conv => whnf)) | (refine ⟨true, _, rfl, ?_⟩; (conv => whnf)) | (refine ⟨false, .nilp, rfl, ?_⟩; (conv => whnf)) | (refine ⟨_, _, by first | exact c104 _, ?_⟩; (conv => whnf)) | ((with_reducible apply Or.inl); (refine ⟨rfl, rfl, ?_⟩); (conv => whnf)) | ((with_reducible apply Or.inl); (with_reducible apply And.intro); (focus (simp only [rng]; omega)); (conv => whnf)) | (refine ⟨by first | omega | (simp at hg ⊢; omega) | (simp_all; first | done | fail), ?_⟩; (conv => whnf)) | ((with_reducible refine ACall.id ?_); (refine PCall.call (by first | exact c104 _) rfl ?_); (intro x hx; first | subst hx | (obtain ⟨l_, rfl, hl_⟩ := hx.out)); (conv => whnf)) | (intro hlen; (conv => whnf))); done); (conv => whnf))
      | ((with_reducible apply Or.inl); (with_reducible apply And.intro); (focus (simp only [rng]; omega)); (conv => whnf))
      | ((with_reducible apply Or.inr); (with_reducible apply And.intro) <;> (intro hb; (try simp at hb); (try (exfalso; first | omega | (simp_all; first | done | fail))); (try (conv => whnf))))
      | ((with_reducible apply And.intro); (focus (first | omega | (exact True.intro) | (simp; omega) | (exact Nat.le_of_ble_eq_true rfl) | (exact ⟨rfl, Nat.le_of_ble_eq_true rfl⟩) | (exact ⟨Nat.le_of_ble_eq_true rfl, Nat.le_of_ble_eq_true rfl⟩) | (intro hg; first | (simp; first | done | fail) | (simp at hg ⊢; exact hg) | (simp at hg; exact hg) | exact hg))); (conv => whnf))
      | ((with_reducible apply And.intro) <;> (intro hb; (try simp at hb); (try (exfalso; first | omega | (simp_all; first | done | fail))); (try (conv => whnf))))
      | (intro hlen; (conv => whnf))
      | ((with_reducible refine And.intro (Side.out ?_) ?_); rotate_left; (conv => whnf); rotate_right)
    · have hit : i < L.length := by assumption
      have hs : (lang (L[i]?.getD ([], [])).1).isSome = true := by assumption
      simp only [← List.getD_eq_getElem?_getD] at hs
      have hsome : lang (L.getD i dT).1 = some l_ := some_of_isSome hs hl_
      have hst := langs_step hit
      rw [hsome, hnil] at hst
      refine .mk (i + 1, 1) ⟨hit, by rw [hst]; simp⟩ (by show L.length - (i + 1) < L.length - i; omega) ?_
      have e : (langs (L.take (i + 1))).map D.str = [D.str l_] := by rw [hst]; rfl
      exact ⟨rfl, rfl, rfl, ⟨OLe.refl _, OLe.of (by show AObj.row 9 1 [D.str l_] 1 = AObj.row 9 1 ((langs (L.take (i + 1))).map D.str) 1; rw [e]), OLe.refl _, OLe.refl _, trivial⟩, ⟨AV.le_refl _, AV.le_refl _, AV.le_refl _, AV.le_refl _, AV.le_refl _, trivial⟩, rfl⟩
    · have hit : i < L.length := by assumption
      have hs : lang (L[i]?.getD ([], [])).1 = none := by assumption
      simp only [← List.getD_eq_getElem?_getD] at hs
      have hst := langs_step hit
      rw [show lang (L.getD i dT).1 = none from hs, hnil] at hst
      exact .mk (i + 1, 0) ⟨hit, by rw [hst]; simp⟩ (by show L.length - (i + 1) < L.length - i; omega) (by refine ⟨rfl, rfl, rfl, ?_, ?_, rfl⟩ <;> repeat' (first | exact trivial | exact OLe.refl _ | exact AV.le_refl _ | apply And.intro))
    · have he : i = L.length := by omega
      subst he
      rw [List.take_length] at hnil
      exact .nil (by rw [hV, hnil]; rfl)
  | succ v =>
    repeat' first
      | (with_reducible refine AW.seq ?_)
      | ((with_reducible refine AW.region Try.tabOk ?_); (conv => whnf))
      | ((with_reducible refine AW.draw Try.tabOk Try.mixed ?_ ?_); (focus rfl); (conv => whnf))
      | ((with_reducible refine AW.ret ?_); (conv => whnf))
      | ((with_reducible refine AW.block ?_))
      | (with_reducible refine AW.scope ?_)
      | ((with_reducible refine AW.label ?_); (conv => whnf))
      | ((with_reducible refine AW.exit ?_); (conv => whnf))
      | ((with_reducible refine AW.skip ?_); (conv => whnf))
      | ((with_reducible refine AW.cond ?_); (conv => whnf))
      | ((with_reducible refine AW.rangeFunc rfl ?_); intro fn_; (conv => whnf); (refine And.intro ⟨Try.f103, Try.func103, by decide, rfl⟩ ?_); (refine ACall.intro Try.tabOk Try.f103 _ Try.func103 rfl (by decide) rfl ?_); intro z_)
      | ((with_reducible refine AYield.id ?_); (refine AYield.intro rfl rfl rfl ?_); intro z_)
      | ((with_reducible refine Own2.data ?_); (conv => whnf))
      | ((with_reducible refine ACall.id ?_); (refine PCall.call (by first | exact c104 _) rfl ?_); (intro x hx; first | subst hx | (obtain ⟨l_, rfl, hl_⟩ := hx.out)); (conv => whnf))
      | ((with_reducible refine ACall.freeze rfl ?_); (conv => whnf))
      | (refine ⟨true, _, rfl, ?_⟩; (conv => whnf))
      | (refine ⟨false, .nilp, rfl, ?_⟩; (conv => whnf))
      | (refine ⟨_, _, by first | exact c104 _, ?_⟩; (conv => whnf))
      | ((with_reducible apply Or.inl); (refine ⟨rfl, rfl, ?_⟩); (conv => whnf))
      | (refine ⟨_, ⟨rfl, rfl⟩, ?_⟩; (conv => whnf))
      | (refine ⟨_, ⟨rfl, getM (by first | omega | (simp; omega))⟩, ?_⟩; (conv => whnf))
      | ((with_reducible apply Or.inl); apply Exists.intro; apply And.intro; (focus (intro hg; (conv => whnf); (repeat' first | (with_reducible exact ⟨rfl, rfl⟩) | ((with_reducible refine Own2.data ?_); (conv => whnf)) | (refine ⟨true, _, rfl, ?_⟩; (conv => whnf)) | (refine ⟨false, .nilp, rfl, ?_⟩; (conv => whnf)) | (refine ⟨_, _, by first | exact c104 _, ?_⟩; (conv => whnf)) | ((with_reducible apply Or.inl); (refine ⟨rfl, rfl, ?_⟩); (conv => whnf)) | ((with_reducible apply Or.inl); (with_reducible apply And.intro); (focus (simp only [rng]; omega)); (conv => whnf)) | (refine ⟨by first | omega | (simp at hg ⊢; omega) | (simp_all; first | done | fail), ?_⟩; (conv => whnf)) | ((with_reducible refine ACall.id ?_); (refine PCall.call (by first | exact c104 _) rfl ?_); (intro x hx; first | subst hx | (obtain ⟨l_, rfl, hl_⟩ := hx.out)); (conv => whnf)) | (intro hlen; (conv => whnf))); done)); (conv => whnf))
      | (apply Exists.intro; apply And.intro; (focus (first | (intro hg; (conv => whnf)) | (conv => whnf)); (repeat' first | (with_reducible exact ⟨rfl, rfl⟩) | ((with_reducible refine Own2.data ?_); (conv => whnf)) | (refine ⟨true, _, rfl, ?_⟩; (conv => whnf)) | (refine ⟨false, .nilp, rfl, ?_⟩; (conv => whnf)) | (refine ⟨_, _, by first | exact c104 _, ?_⟩; (conv => whnf)) | ((with_reducible apply Or.inl); (refine ⟨rfl, rfl, ?_⟩); (conv => whnf)) | ((with_reducible apply Or.inl); (with_reducible apply And.intro); (focus (simp only [rng]; omega)); (conv => whnf)) | (refine ⟨by first | omega | (simp at hg ⊢; omega) | (simp_all; first | done | fail), ?_⟩; (conv => whnf)) | ((with_reducible refine ACall.id ?_); (refine PCall.call (by first | exact c104 _) rfl ?_); (intro x hx; first | subst hx | (obtain ⟨l_, rfl, hl_⟩ := hx.out)); (conv => whnf)) | (intro hlen; (conv => whnf))); done); (conv => whnf))
      | ((with_reducible apply Or.inl); (with_reducible apply And.intro); (focus (simp only [rng]; omega)); (conv => whnf))
      | ((with_reducible apply Or.inr); (with_reducible apply And.intro) <;> (intro hb; (try simp at hb); (try (exfalso; first | omega | (simp_all; first | done | fail))); (try (conv => whnf))))
      | ((with_reducible apply And.intro); (focus (first | omega | (exact True.intro) | (simp; omega) | (exact Nat.le_of_ble_eq_true rfl) | (exact ⟨rfl, Nat.le_of_ble_eq_true rfl⟩) | (exact ⟨Nat.le_of_ble_eq_true rfl, Nat.le_of_ble_eq_true rfl⟩) | (intro hg; first | (simp; first | done | fail) | (simp at hg ⊢; exact hg) | (simp at hg; exact hg) | exact hg))); (conv => whnf))
      | ((with_reducible apply And.intro) <;> (intro hb; (try simp at hb); (try (exfalso; first | omega | (simp_all; first | done | fail))); (try (conv => whnf))))
      | (intro hlen; (conv => whnf))
      | ((with_reducible refine And.intro (Side.out ?_) ?_); rotate_left; (conv => whnf); rotate_right)
    · refine ⟨rfl, ?_, ?_⟩
      · show (((langs (L.take i)).map D.str).length + 1) * 16 ≤ _
        rw [List.length_map]; omega
      · show (((langs (L.take i)).map D.str).length + 1) ≤ _
        rw [List.length_map]; simp only [maxLen]; omega
    · have hit : i < L.length := by assumption
      have hs : (lang (L[i]?.getD ([], [])).1).isSome = true := by assumption
      simp only [← List.getD_eq_getElem?_getD] at hs
      have hsome : lang (L.getD i dT).1 = some l_ := some_of_isSome hs hl_
      have hst := langs_step hit
      rw [hsome] at hst
      refine .mk (i + 1, v + 2) ⟨hit, by rw [hst]; simp⟩ (by show L.length - (i + 1) < L.length - i; omega) ?_
      have e : (langs (L.take (i + 1))).map D.str = (langs (L.take i)).map D.str ++ [D.str l_] := by rw [hst]; simp
      exact ⟨rfl, rfl, rfl, ⟨OLe.refl _, OLe.of (by show AObj.row 9 1 ((langs (L.take i)).map D.str ++ [D.str l_]) (v + 2) = AObj.row 9 1 ((langs (L.take (i + 1))).map D.str) (v + 2); rw [e]), OLe.refl _, OLe.refl _, trivial⟩, ⟨AV.le_refl _, AV.le_refl _, AV.le_refl _, AV.le_refl _, AV.le_refl _, trivial⟩, rfl⟩
    · have hit : i < L.length := by assumption
      have hs : lang (L[i]?.getD ([], [])).1 = none := by assumption
      simp only [← List.getD_eq_getElem?_getD] at hs
      have hst := langs_step hit
      rw [show lang (L.getD i dT).1 = none from hs, Option.toList_none, List.append_nil] at hst
      refine .mk (i + 1, v + 1) ⟨hit, by rw [hst]; exact hv⟩ (by show L.length - (i + 1) < L.length - i; omega) ?_
      exact ⟨rfl, rfl, rfl, ⟨OLe.refl _, OLe.of (by show AObj.row 9 1 ((langs (L.take i)).map D.str) (v + 1) = AObj.row 9 1 ((langs (L.take (i + 1))).map D.str) (v + 1); rw [hst]), OLe.refl _, OLe.refl _, trivial⟩, ⟨AV.le_refl _, AV.le_refl _, AV.le_refl _, AV.le_refl _, AV.le_refl _, trivial⟩, rfl⟩
    · have he : i = L.length := by omega
      subst he
      rw [hV]
      show SlRes 1 ((langs L).map D.str) (.d (.list 1 ((langs (L.take L.length)).map D.str)))
      rw [List.take_length]
      exact .row
end Go.Proofs
end
section
/- Contracts: the best name. -/
namespace Go.Proofs
open Go.Pm
set_option maxRecDepth 100000
set_option maxHeartbeats 4000000

def atL (G : List Str) (own : Str) : Int := if 0 ≤ idx G own then idx G own else if own = [] then (G.length : Int) else (G.length : Int) + 1
def bestStep (G : List Str) (b : (Str × Str) × Int) (t : Str × Str) : (Str × Str) × Int :=
  match lang t.1 with
  | some l => if atL G l < b.2 then (t, atL G l) else b
  | none => b
def bestF (G : List Str) (L : List (Str × Str)) : (Str × Str) × Int := L.foldl (bestStep G) (([], []), (G.length : Int) + 2)
def best (L : List (Str × Str)) (G : List Str) : Str × Str := if tagsB L then ((bestF G L).1.2, (bestF G L).1.1) else ([], [])
theorem bestF_step {G : List Str} {L : List (Str × Str)} {i : Nat} (h : i < L.length) : bestF G (L.take (i + 1)) = bestStep G (bestF G (L.take i)) (L.getD i dT) := by
  rw [take_succ_getD L i dT h, bestF, List.foldl_append]; rfl

theorem c39 (L : List (Str × Str)) (G : List Str) (hG : G.length ≤ 1000000000000000) : PCall Try.prog 39 [.d (encTags L), .d (encStrs G)] fun x => x = .tup [.d (.str (best L G).1), .d (.str (best L G).2)] := by
  refine PCall.intro Try.tabOk Try.f39 _ Try.func39 rfl (by decide) rfl fun z => ?_
  repeat' first
    | (with_reducible refine AW.seq ?_)
    | ((with_reducible refine AW.region Try.tabOk ?_); (conv => whnf))
    | ((with_reducible refine AW.draw Try.tabOk Try.mixed ?_ ?_); (focus rfl); (conv => whnf))
    | ((with_reducible refine AW.ret ?_); (conv => whnf))
    | ((with_reducible refine AW.block ?_))
    | (with_reducible refine AW.scope ?_)
    | ((with_reducible refine AW.label ?_); (conv => whnf))
    | ((with_reducible refine AW.exit ?_); (conv => whnf))
    | ((with_reducible refine AW.skip ?_); (conv => whnf))
    | ((with_reducible refine AW.cond ?_); (conv => whnf))
    | ((with_reducible refine AW.rangeFunc rfl ?_); intro fn_; (conv => whnf); (refine And.intro ⟨Try.f103, Try.func103, by decide, rfl⟩ ?_); (refine ACall.intro Try.tabOk Try.f103 _ Try.func103 rfl (by decide) rfl ?_); intro z_)
    | ((with_reducible refine AYield.id ?_); (refine AYield.intro rfl rfl rfl ?_); intro z_)
    | ((with_reducible refine Own2.data ?_); (conv => whnf))
    | ((with_reducible refine ACall.id ?_); (refine PCall.call (by first | exact c37 _ | exact c77 _ _) rfl ?_); (intro x hx; first | subst hx | (obtain ⟨l_, rfl, hl_⟩ := hx.out)); (conv => whnf))
    | ((with_reducible refine ACall.id ?_); (refine ACall.intro Try.tabOk Try.f75 _ Try.func75 rfl (by decide) rfl ?_); intro z_)
    | ((with_reducible refine ACall.freeze rfl ?_); (conv => whnf))
    | (refine ⟨true, _, rfl, ?_⟩; (conv => whnf))
    | (refine ⟨false, .nilp, rfl, ?_⟩; (conv => whnf))
    | (refine ⟨_, _, by first | exact c37 _ | exact c77 _ _, ?_⟩; (conv => whnf))
    | ((with_reducible apply Or.inl); (refine ⟨rfl, rfl, ?_⟩); (conv => whnf))
    | (refine ⟨_, ⟨rfl, rfl⟩, ?_⟩; (conv => whnf))
    | (refine ⟨_, ⟨rfl, getM (by first | omega | (simp; omega))⟩, ?_⟩; (conv => whnf))
    | ((with_reducible apply Or.inl); apply Exists.intro; apply And.intro; (focus (intro hg; (conv => whnf); (repeat' first | (with_reducible exact ⟨rfl, rfl⟩) | ((with_reducible refine Own2.data ?_); (conv => whnf)) | (refine ⟨true, _, rfl, ?_⟩; (conv => whnf)) | (refine ⟨false, .nilp, rfl, ?_⟩; (conv => whnf)) | (refine ⟨_, _, by first | exact c37 _ | exact c77 _ _, ?_⟩; (conv => whnf)) | ((with_reducible apply Or.inl); (refine ⟨rfl, rfl, ?_⟩); (conv => whnf)) | ((with_reducible apply Or.inl); (with_reducible apply And.intro); (focus (simp only [rng]; omega)); (conv => whnf)) | (refine ⟨by first | omega | (simp at hg ⊢; omega) | (simp_all; first | done | fail), ?_⟩; (conv => whnf)) | ((with_reducible refine ACall.id ?_); (refine PCall.call (by first | exact c37 _ | exact c77 _ _) rfl ?_); (intro x hx; first | subst hx | (obtain ⟨l_, rfl, hl_⟩ := hx.out)); (conv => whnf)) | (intro hlen; (conv => whnf))); done)); (conv => whnf))
    | (apply Exists.intro; apply And.intro; (focus (first | (intro hg; (conv => whnf)) | (conv => whnf)); (repeat' first | (with_reducible exact ⟨rfl, rfl⟩) | ((with_reducible refine Own2.data ?_); (conv => whnf)) | (refine ⟨true, _, rfl, ?_⟩; (conv => whnf)) | (refine ⟨false, .nilp, rfl, ?_⟩; (conv => whnf)) | (refine ⟨_, _, by first | exact c37 _ | exact c77 _ _, ?_⟩; (conv => whnf)) | ((with_reducible apply Or.inl); (refine ⟨rfl, rfl, ?_⟩); (conv => whnf)) | ((with_reducible apply Or.inl); (with_reducible apply And.intro); (focus (simp only [rng]; omega)); (conv => whnf)) | (refine ⟨by first | omega | (simp at hg ⊢; omega) | (simp_all; first | done | fail), ?_⟩; (conv => whnf)) | ((with_reducible refine ACall.id ?_); (refine PCall.call (by first | exact c37 _ | exact c77 _ _) rfl ?_); (intro x hx; first | subst hx | (obtain ⟨l_, rfl, hl_⟩ := hx.out)); (conv => whnf)) | (intro hlen; (conv => whnf))); done); (conv => whnf))
    | ((with_reducible apply Or.inl); (with_reducible apply And.intro); (focus (simp only [rng]; omega)); (conv => whnf))
    | ((with_reducible apply Or.inr); (with_reducible apply And.intro) <;> (intro hb; (try simp at hb); (try (exfalso; first | omega | (simp_all; first | done | fail))); (try (conv => whnf))))
    | ((with_reducible apply And.intro); (focus (first | omega | (exact True.intro) | (simp; omega) | (exact Nat.le_of_ble_eq_true rfl) | (exact ⟨rfl, Nat.le_of_ble_eq_true rfl⟩) | (exact ⟨Nat.le_of_ble_eq_true rfl, Nat.le_of_ble_eq_true rfl⟩) | (intro hg; first | (simp; first | done | fail) | (simp at hg ⊢; exact hg) | (simp at hg; exact hg) | exact hg))); (conv => whnf))
    | ((with_reducible apply And.intro) <;> (intro hb; (try simp at hb); (try (exfalso; first | omega | (simp_all; first | done | fail))); (try (conv => whnf))))
    | (intro hlen; (conv => whnf))
    | ((with_reducible refine And.intro (Side.out ?_) ?_); rotate_left; (conv => whnf); rotate_right)
  · have hb : tagsB L = false := by assumption
    simp [best, hb]
  have hB : best L G = ((bestF G L).1.2, (bestF G L).1.1) := by have : tagsB L = true := by assumption
                                                                simp [best, this]
  refine AW.loopS (X := Nat) [8, 7, 0, 1] [0, 3, 4, 5] (fun i => [(9, .d (.int .i64 (i : Int)))]) (fun i => [(1, .var [.d (.str (bestF G (L.take i)).1.1), .d (.str (bestF G (L.take i)).1.2)] 96), (2, .var [.d (.int .i64 (bestF G (L.take i)).2)] 3)]) (fun _ => 6)
    (fun i => i ≤ L.length) (fun i => L.length - i) 0 (Nat.zero_le _) (fun _ _ => rfl) (by refine ⟨rfl, rfl, rfl, ?_, ?_⟩ <;> repeat' (first | exact trivial | exact OLe.refl _ | exact AV.le_refl _ | apply And.intro)) ?_
  intro i hi
  repeat' first
    | (with_reducible refine AW.seq ?_)
    | ((with_reducible refine AW.region Try.tabOk ?_); (conv => whnf))
    | ((with_reducible refine AW.draw Try.tabOk Try.mixed ?_ ?_); (focus rfl); (conv => whnf))
    | ((with_reducible refine AW.ret ?_); (conv => whnf))
    | ((with_reducible refine AW.block ?_))
    | (with_reducible refine AW.scope ?_)
    | ((with_reducible refine AW.label ?_); (conv => whnf))
    | ((with_reducible refine AW.exit ?_); (conv => whnf))
    | ((with_reducible refine AW.skip ?_); (conv => whnf))
    | ((with_reducible refine AW.cond ?_); (conv => whnf))
    | ((with_reducible refine AW.rangeFunc rfl ?_); intro fn_; (conv => whnf); (refine And.intro ⟨Try.f103, Try.func103, by decide, rfl⟩ ?_); (refine ACall.intro Try.tabOk Try.f103 _ Try.func103 rfl (by decide) rfl ?_); intro z_)
    | ((with_reducible refine AYield.id ?_); (refine AYield.intro rfl rfl rfl ?_); intro z_)
    | ((with_reducible refine Own2.data ?_); (conv => whnf))
    | ((with_reducible refine ACall.id ?_); (refine PCall.call (by first | exact c104 _ | exact c77 _ _) rfl ?_); (intro x hx; first | subst hx | (obtain ⟨l_, rfl, hl_⟩ := hx.out)); (conv => whnf))
    | ((with_reducible refine ACall.id ?_); (refine ACall.intro Try.tabOk Try.f76 _ Try.func76 rfl (by decide) rfl ?_); intro z_)
    | ((with_reducible refine ACall.freeze rfl ?_); (conv => whnf))
    | (refine ⟨true, _, rfl, ?_⟩; (conv => whnf))
    | (refine ⟨false, .nilp, rfl, ?_⟩; (conv => whnf))
    | (refine ⟨_, _, by first | exact c104 _ | exact c77 _ _, ?_⟩; (conv => whnf))
    | ((with_reducible apply Or.inl); (refine ⟨rfl, rfl, ?_⟩); (conv => whnf))
    | (refine ⟨_, ⟨rfl, rfl⟩, ?_⟩; (conv => whnf))
    | (refine ⟨_, ⟨rfl, getM (by first | omega | (simp; omega))⟩, ?_⟩; (conv => whnf))
    | ((with_reducible apply Or.inl); apply Exists.intro; apply And.intro; (focus (intro hg; (conv => whnf); (repeat' first | (with_reducible exact ⟨rfl, rfl⟩) | ((with_reducible refine Own2.data ?_); (conv => whnf)) | (refine ⟨true, _, rfl, ?_⟩; (conv => whnf)) | (refine ⟨false, .nilp, rfl, ?_⟩; (conv => whnf)) | (refine ⟨_, _, by first | exact c104 _ | exact c77 _ _, ?_⟩; (conv => whnf)) | ((with_reducible apply Or.inl); (refine ⟨rfl, rfl, ?_⟩); (conv => whnf)) | ((with_reducible apply Or.inl); (with_reducible apply And.intro); (focus (simp only [rng]; omega)); (conv => whnf)) | (refine ⟨by first | omega | (simp at hg ⊢; omega) | (simp_all; first | done | fail), ?_⟩; (conv => whnf)) | ((with_reducible refine ACall.id ?_); (refine PCall.call (by first | exact c104 _ | exact c77 _ _) rfl ?_); (intro x hx; first | subst hx | (obtain ⟨l_, rfl, hl_⟩ := hx.out)); (conv => whnf)) | (intro hlen; (conv => whnf))); done)); (conv => whnf))
    | (apply Exists.intro; apply And.intro; (focus (first | (intro hg; (conv => whnf)) | (conv => whnf)); (repeat' first | (with_reducible exact ⟨rfl, rfl⟩) | ((with_reducible refine Own2.data ?_); (conv => whnf)) | (refine ⟨true, _, rfl, ?_⟩; (conv => whnf)) | (refine ⟨false, .nilp, rfl, ?_⟩; (conv => whnf)) | (refine ⟨_, _, by first | exact c104 _ | exact c77 _ _, ?_⟩; (conv => whnf)) | ((with_reducible apply Or.inl); (refine ⟨rfl, rfl, ?_⟩); (conv => whnf)) | ((with_reducible apply Or.inl); (with_reducible apply And.intro); (focus (simp only [rng]; omega)); (conv => whnf)) | (refine ⟨by first | omega | (simp at hg ⊢; omega) | (simp_all; first | done | fail), ?_⟩; (conv => whnf)) | ((with_reducible refine ACall.id ?_); (refine PCall.call (by first | exact c104 _ | exact c77 _ _) rfl ?_); (intro x hx; first | subst hx | (obtain ⟨l_, rfl, hl_⟩ := hx.out)); (conv => whnf)) | (intro hlen; (conv => whnf))); done); (conv => whnf))
    | ((with_reducible apply Or.inl); (with_reducible apply And.intro); (focus (simp only [rng]; omega)); (conv => whnf))
    | ((with_reducible apply Or.inr); (with_reducible apply And.intro) <;> (intro hb; (try simp at hb); (try (exfalso; first | omega | (simp_all; first | done | fail))); (try (conv => whnf))))
    | ((with_reducible apply And.intro); (focus (first | omega | (exact True.intro) | (simp; omega) | (exact Nat.le_of_ble_eq_true rfl) | (exact ⟨rfl, Nat.le_of_ble_eq_true rfl⟩) | (exact ⟨Nat.le_of_ble_eq_true rfl, Nat.le_of_ble_eq_true rfl⟩) | (intro hg; first | (simp; first | done | fail) | (simp at hg ⊢; exact hg) | (simp at hg; exact hg) | exact hg))); (conv => whnf))
    | ((with_reducible apply And.intro) <;> (intro hb; (try simp at hb); (try (exfalso; first | omega | (simp_all; first | done | fail))); (try (conv => whnf))))
    | (intro hlen; (conv => whnf))
    | ((with_reducible refine And.intro (Side.out ?_) ?_); rotate_left; (conv => whnf); rotate_right)
  all_goals try (have hit : i < L.length := by assumption)
  all_goals try (have hs : (lang (L[i]?.getD ([], [])).1).isSome = true := by assumption)
  all_goals try (rw [← List.getD_eq_getElem?_getD] at hs; have hsome : lang (L.getD i dT).1 = some l_ := some_of_isSome hs hl_)
  all_goals try (have hst := bestF_step (G := G) hit; simp only [bestStep, hsome] at hst)
  · rename_i h1 h2
    have ha : atL G l_ = idx G l_ := if_pos (by assumption)
    rw [ha, if_pos (by assumption)] at hst
    exact .mk (i + 1) hit (by show L.length - (i + 1) < L.length - i; omega) ⟨rfl, rfl, rfl, ⟨OLe.of (by show _ = AObj.var [.d (.str (bestF G (L.take (i + 1))).1.1), .d (.str (bestF G (L.take (i + 1))).1.2)] 96; rw [hst]; rfl), OLe.of (by show _ = AObj.var [.d (.int .i64 (bestF G (L.take (i + 1))).2)] 3; rw [hst]; rfl), OLe.refl _, OLe.refl _, OLe.refl _, OLe.refl _, trivial⟩, ⟨AV.le_refl _, AV.le_refl _, AV.le_refl _, AV.le_refl _, AV.le_refl _, trivial⟩, rfl⟩
  · have ha : atL G l_ = idx G l_ := if_pos (by assumption)
    rw [ha, if_neg (by omega)] at hst
    exact .mk (i + 1) hit (by show L.length - (i + 1) < L.length - i; omega) ⟨rfl, rfl, rfl, ⟨OLe.of (by show _ = AObj.var [.d (.str (bestF G (L.take (i + 1))).1.1), .d (.str (bestF G (L.take (i + 1))).1.2)] 96; rw [hst]; rfl), OLe.of (by show _ = AObj.var [.d (.int .i64 (bestF G (L.take (i + 1))).2)] 3; rw [hst]; rfl), OLe.refl _, OLe.refl _, OLe.refl _, OLe.refl _, trivial⟩, ⟨AV.le_refl _, AV.le_refl _, AV.le_refl _, AV.le_refl _, AV.le_refl _, trivial⟩, rfl⟩
  · have ha : atL G l_ = (G.length : Int) := by unfold atL; rw [if_neg (by omega), if_pos (by assumption)]
    rw [ha, if_pos (by assumption)] at hst
    exact .mk (i + 1) hit (by show L.length - (i + 1) < L.length - i; omega) ⟨rfl, rfl, rfl, ⟨OLe.of (by show _ = AObj.var [.d (.str (bestF G (L.take (i + 1))).1.1), .d (.str (bestF G (L.take (i + 1))).1.2)] 96; rw [hst]; rfl), OLe.of (by show _ = AObj.var [.d (.int .i64 (bestF G (L.take (i + 1))).2)] 3; rw [hst]; rfl), OLe.refl _, OLe.refl _, OLe.refl _, OLe.refl _, trivial⟩, ⟨AV.le_refl _, AV.le_refl _, AV.le_refl _, AV.le_refl _, AV.le_refl _, trivial⟩, rfl⟩
  · have ha : atL G l_ = (G.length : Int) := by unfold atL; rw [if_neg (by omega), if_pos (by assumption)]
    rw [ha, if_neg (by omega)] at hst
    exact .mk (i + 1) hit (by show L.length - (i + 1) < L.length - i; omega) ⟨rfl, rfl, rfl, ⟨OLe.of (by show _ = AObj.var [.d (.str (bestF G (L.take (i + 1))).1.1), .d (.str (bestF G (L.take (i + 1))).1.2)] 96; rw [hst]; rfl), OLe.of (by show _ = AObj.var [.d (.int .i64 (bestF G (L.take (i + 1))).2)] 3; rw [hst]; rfl), OLe.refl _, OLe.refl _, OLe.refl _, OLe.refl _, trivial⟩, ⟨AV.le_refl _, AV.le_refl _, AV.le_refl _, AV.le_refl _, AV.le_refl _, trivial⟩, rfl⟩
  · have ha : atL G l_ = (G.length : Int) + 1 := by unfold atL; rw [if_neg (by omega), if_neg (by assumption)]
    rw [ha, if_pos (by assumption)] at hst
    exact .mk (i + 1) hit (by show L.length - (i + 1) < L.length - i; omega) ⟨rfl, rfl, rfl, ⟨OLe.of (by show _ = AObj.var [.d (.str (bestF G (L.take (i + 1))).1.1), .d (.str (bestF G (L.take (i + 1))).1.2)] 96; rw [hst]; rfl), OLe.of (by show _ = AObj.var [.d (.int .i64 (bestF G (L.take (i + 1))).2)] 3; rw [hst]; rfl), OLe.refl _, OLe.refl _, OLe.refl _, OLe.refl _, trivial⟩, ⟨AV.le_refl _, AV.le_refl _, AV.le_refl _, AV.le_refl _, AV.le_refl _, trivial⟩, rfl⟩
  · have ha : atL G l_ = (G.length : Int) + 1 := by unfold atL; rw [if_neg (by omega), if_neg (by assumption)]
    rw [ha, if_neg (by omega)] at hst
    exact .mk (i + 1) hit (by show L.length - (i + 1) < L.length - i; omega) ⟨rfl, rfl, rfl, ⟨OLe.of (by show _ = AObj.var [.d (.str (bestF G (L.take (i + 1))).1.1), .d (.str (bestF G (L.take (i + 1))).1.2)] 96; rw [hst]; rfl), OLe.of (by show _ = AObj.var [.d (.int .i64 (bestF G (L.take (i + 1))).2)] 3; rw [hst]; rfl), OLe.refl _, OLe.refl _, OLe.refl _, OLe.refl _, trivial⟩, ⟨AV.le_refl _, AV.le_refl _, AV.le_refl _, AV.le_refl _, AV.le_refl _, trivial⟩, rfl⟩
  · have hs : lang (L[i]?.getD ([], [])).1 = none := by assumption
    rw [← List.getD_eq_getElem?_getD] at hs
    have hst := bestF_step (G := G) (by assumption : i < L.length)
    have hs : lang (L.getD i dT).1 = none := hs
    simp only [bestStep, hs] at hst
    exact .mk (i + 1) (by assumption : i < L.length) (by show L.length - (i + 1) < L.length - i; omega) ⟨rfl, rfl, rfl, ⟨OLe.of (by show _ = AObj.var [.d (.str (bestF G (L.take (i + 1))).1.1), .d (.str (bestF G (L.take (i + 1))).1.2)] 96; rw [hst]; rfl), OLe.of (by show _ = AObj.var [.d (.int .i64 (bestF G (L.take (i + 1))).2)] 3; rw [hst]; rfl), OLe.refl _, OLe.refl _, OLe.refl _, OLe.refl _, trivial⟩, ⟨AV.le_refl _, AV.le_refl _, AV.le_refl _, AV.le_refl _, AV.le_refl _, trivial⟩, rfl⟩
  · have he : i = L.length := by omega
    subst he
    rw [List.take_length, hB]
end Go.Proofs
end
section
/- Contracts: objects. -/
namespace Go.Proofs
open Go.Pm
set_option maxRecDepth 100000
set_option maxHeartbeats 4000000

def wrongAt (kind : Int) (R : List Str) (j : Nat) : Bool :=
  !nameB (R.getD j []) || decide (kind = 2 ∧ 0 < j ∧ R.getD (j - 1) [] = R.getD j []) || decide (kind = 3 ∧ R.getD j [] ∈ R.take j)
def refsB (kind : Int) (R : List Str) : Bool := (List.range R.length).all fun j => !wrongAt kind R j
def countB (kind : Int) (n : Nat) : Bool :=
  (if kind = 1 then decide (n = 0) else if kind = 2 then decide (2 ≤ n) else if kind = 3 then decide (3 ≤ n) else if kind = 4 then decide (1 ≤ n) else decide (n = 3)) && decide (n ≤ 2000)
def atB (kind x y : Int) : Bool := if kind = 1 then onGrid x y else decide (x = 0) && decide (y = 0)
def objB (o : Obj) : Bool := decide (1 ≤ o.kind ∧ o.kind ≤ 5) && nameB o.id && tagsB o.tags && countB o.kind o.refs.length && refsB o.kind o.refs && atB o.kind o.x o.y
theorem kindWord_nil (n : Int) : (kindWord n = []) ↔ ¬ (1 ≤ n ∧ n ≤ 5) := by
  unfold kindWord
  constructor
  · intro h; repeat' split at h
    all_goals first | (cases h; done) | omega
  · intro h; rw [if_neg (by omega), if_neg (by omega), if_neg (by omega), if_neg (by omega), if_neg (by omega)]

theorem kindLeast_count {k : Int} (n : Nat) : countB k n = true → kindLeast k ≤ n ∧ n ≤ 2000 := by
  unfold countB kindLeast
  intro h
  rw [Bool.and_eq_true, decide_eq_true_eq] at h
  refine ⟨?_, h.2⟩
  have h := h.1
  repeat' split at h
  all_goals (simp only [decide_eq_true_eq] at h)
  all_goals (repeat' split)
  all_goals omega
theorem refsB_iff {k : Int} {R : List Str} : refsB k R = true ↔ ∀ j, j < R.length → wrongAt k R j = false := by
  unfold refsB
  rw [List.all_eq_true]
  constructor
  · intro h j hj
    have := h j (List.mem_range.2 hj)
    simpa using this
  · intro h j hj
    rw [h j (List.mem_range.1 hj)]; rfl
theorem c62 (o : Obj) : PCall Try.prog 62 [.d (encObj o)] fun x => x = .d (.bool (objB o)) := by
  have c94' : ∀ n : Int, kindWord n ≠ [] → PCall Try.prog 94 [.d (.int .i64 n)] fun x => x = .d (.int .i64 (kindLeast n)) := fun n h => c94 n (by
    rw [Ne, kindWord_nil] at h; omega)
  refine PCall.intro Try.tabOk Try.f62 _ Try.func62 rfl (by decide) rfl fun z => ?_
  repeat' first
    | (with_reducible refine AW.seq ?_)
    | ((with_reducible refine AW.region Try.tabOk ?_); (conv => whnf))
    | ((with_reducible refine AW.draw Try.tabOk Try.mixed ?_ ?_); (focus rfl); (conv => whnf))
    | ((with_reducible refine AW.ret ?_); (conv => whnf))
    | ((with_reducible refine AW.block ?_))
    | (with_reducible refine AW.scope ?_)
    | ((with_reducible refine AW.label ?_); (conv => whnf))
    | ((with_reducible refine AW.exit ?_); (conv => whnf))
    | ((with_reducible refine AW.skip ?_); (conv => whnf))
    | ((with_reducible refine AW.cond ?_); (conv => whnf))
    | ((with_reducible refine Own2.data ?_); (conv => whnf))
    | ((with_reducible refine ACall.id ?_); (refine PCall.call (by first | exact c93 _ | exact c74 _ | exact c37 _ | exact c96 _ _ | exact c94' _ (by simp_all)) rfl ?_); (intro x hx; first | subst hx | (obtain ⟨l_, rfl, hl_⟩ := hx.out)); (conv => whnf))
    | ((with_reducible refine ACall.id ?_); (refine ACall.intro Try.tabOk Try.f81 _ Try.func81 rfl (by decide) rfl ?_); intro z_)
    | ((with_reducible refine ACall.id ?_); (refine ACall.intro Try.tabOk Try.f105 _ Try.func105 rfl (by decide) rfl ?_); intro z_)
    | ((with_reducible refine ACall.freeze rfl ?_); (conv => whnf))
    | (refine ⟨true, _, rfl, ?_⟩; (conv => whnf))
    | (refine ⟨false, .nilp, rfl, ?_⟩; (conv => whnf))
    | (refine ⟨_, _, by first | exact c93 _ | exact c74 _ | exact c37 _ | exact c96 _ _ | exact c94' _ (by simp_all), ?_⟩; (conv => whnf))
    | ((with_reducible apply Or.inl); (refine ⟨rfl, rfl, ?_⟩); (conv => whnf))
    | (refine ⟨_, ⟨rfl, rfl⟩, ?_⟩; (conv => whnf))
    | (refine ⟨_, ⟨rfl, getM (by first | omega | (simp; omega))⟩, ?_⟩; (conv => whnf))
    | ((with_reducible apply Or.inl); apply Exists.intro; apply And.intro; (focus (intro hg; (conv => whnf); (repeat' first | (with_reducible exact ⟨rfl, rfl⟩) | ((with_reducible refine Own2.data ?_); (conv => whnf)) | (refine ⟨true, _, rfl, ?_⟩; (conv => whnf)) | (refine ⟨false, .nilp, rfl, ?_⟩; (conv => whnf)) | (refine ⟨_, _, by first | exact c93 _ | exact c74 _ | exact c37 _ | exact c96 _ _ | exact c94' _ (by simp_all), ?_⟩; (conv => whnf)) | ((with_reducible apply Or.inl); (refine ⟨rfl, rfl, ?_⟩); (conv => whnf)) | ((with_reducible apply Or.inl); (with_reducible apply And.intro); (focus (simp only [rng]; omega)); (conv => whnf)) | (refine ⟨by first | omega | (simp at hg ⊢; omega) | (simp_all; first | done | fail), ?_⟩; (conv => whnf)) | ((with_reducible refine ACall.id ?_); (refine PCall.call (by first | exact c93 _ | exact c74 _ | exact c37 _ | exact c96 _ _ | exact c94' _ (by simp_all)) rfl ?_); (intro x hx; first | subst hx | (obtain ⟨l_, rfl, hl_⟩ := hx.out)); (conv => whnf)) | (intro hlen; (conv => whnf))); done)); (conv => whnf))
    | (apply Exists.intro; apply And.intro; (focus (first | (intro hg; (conv => whnf)) | (conv => whnf)); (repeat' first | (with_reducible exact ⟨rfl, rfl⟩) | ((with_reducible refine Own2.data ?_); (conv => whnf)) | (refine ⟨true, _, rfl, ?_⟩; (conv => whnf)) | (refine ⟨false, .nilp, rfl, ?_⟩; (conv => whnf)) | (refine ⟨_, _, by first | exact c93 _ | exact c74 _ | exact c37 _ | exact c96 _ _ | exact c94' _ (by simp_all), ?_⟩; (conv => whnf)) | ((with_reducible apply Or.inl); (refine ⟨rfl, rfl, ?_⟩); (conv => whnf)) | ((with_reducible apply Or.inl); (with_reducible apply And.intro); (focus (simp only [rng]; omega)); (conv => whnf)) | (refine ⟨by first | omega | (simp at hg ⊢; omega) | (simp_all; first | done | fail), ?_⟩; (conv => whnf)) | ((with_reducible refine ACall.id ?_); (refine PCall.call (by first | exact c93 _ | exact c74 _ | exact c37 _ | exact c96 _ _ | exact c94' _ (by simp_all)) rfl ?_); (intro x hx; first | subst hx | (obtain ⟨l_, rfl, hl_⟩ := hx.out)); (conv => whnf)) | (intro hlen; (conv => whnf))); done); (conv => whnf))
    | ((with_reducible apply Or.inl); (with_reducible apply And.intro); (focus (simp only [rng]; omega)); (conv => whnf))
    | ((with_reducible apply Or.inr); (with_reducible apply And.intro) <;> (intro hb; (try simp at hb); (try (exfalso; first | omega | (simp_all; first | done | fail))); (try (conv => whnf))))
    | ((with_reducible apply And.intro); (focus (first | omega | (exact True.intro) | (simp; omega) | (exact Nat.le_of_ble_eq_true rfl) | (exact ⟨rfl, Nat.le_of_ble_eq_true rfl⟩) | (exact ⟨Nat.le_of_ble_eq_true rfl, Nat.le_of_ble_eq_true rfl⟩) | (intro hg; first | (simp; first | done | fail) | (simp at hg ⊢; exact hg) | (simp at hg; exact hg) | exact hg))); (conv => whnf))
    | ((with_reducible apply And.intro) <;> (intro hb; (try simp at hb); (try (exfalso; first | omega | (simp_all; first | done | fail))); (try (conv => whnf))))
    | (intro hlen; (conv => whnf))
    | ((with_reducible refine And.intro (Side.out ?_) ?_); rotate_left; (conv => whnf); rotate_right)
  · have hb : (((kindWord o.kind = [] ∨ nameB o.id = false) ∨ tagsB o.tags = false) ∨ o.refs.length < kindLeast o.kind) ∨ 2000 < (o.refs.length : Int) := by assumption
    have : objB o = false := by
      rw [Bool.eq_false_iff]
      intro h
      simp only [objB, Bool.and_eq_true, decide_eq_true_eq] at h
      obtain ⟨⟨⟨⟨⟨h1, h2⟩, h3⟩, h4⟩, h5⟩, h6⟩ := h
      have hc := kindLeast_count _ h4
      rcases hb with (((hb | hb) | hb) | hb) | hb
      · rw [kindWord_nil] at hb; exact hb h1
      · rw [hb] at h2; cases h2
      · rw [hb] at h3; cases h3
      · omega
      · omega
    rw [this]
  have hN : kindWord o.kind ≠ [] ∧ nameB o.id = true ∧ tagsB o.tags = true ∧ kindLeast o.kind ≤ o.refs.length ∧ o.refs.length ≤ 2000 := by
    have hb : (((¬kindWord o.kind = [] ∧ nameB o.id = true) ∧ tagsB o.tags = true) ∧ kindLeast o.kind ≤ o.refs.length) ∧ (o.refs.length : Int) ≤ 2000 := by assumption
    exact ⟨hb.1.1.1.1, hb.1.1.1.2, hb.1.1.2, hb.1.2, by omega⟩
  have hk : 1 ≤ o.kind ∧ o.kind ≤ 5 := by
    have := hN.1
    rw [Ne, kindWord_nil] at this; omega
  refine AW.loopS (X := Nat × List (Nat × D × D) × Nat) [7, 6, 0, 1] [0, 2] (fun x => [(8, .d (.int .i64 (x.1 : Int)))]) (fun x => [(3, .var [.d (.str (lastK o.refs x.1))] 9), (1, .map (.one .str) x.2.1 x.2.2)]) (fun _ => 4)
    (fun x => x.1 ≤ o.refs.length ∧ (∀ j, j < x.1 → wrongAt o.kind o.refs j = false) ∧ ∀ s, findE (.str s) x.2.1 = cond (decide (s ∈ o.refs.take x.1)) (some (.bool true)) none) (fun x => o.refs.length - x.1) (0, [], 0)
    ⟨Nat.zero_le _, fun j h => absurd h (Nat.not_lt_zero j), fun s => by simp [findE]⟩ (fun _ _ => rfl) (by refine ⟨rfl, rfl, rfl, ?_, ?_⟩ <;> repeat' (first | exact trivial | exact OLe.refl _ | exact AV.le_refl _ | apply And.intro)) ?_
  intro ⟨i, es, cl⟩ ⟨hi, hw, hE⟩
  dsimp only at hi hw hE
  repeat' first
    | (with_reducible refine AW.seq ?_)
    | ((with_reducible refine AW.region Try.tabOk ?_); (conv => whnf))
    | ((with_reducible refine AW.draw Try.tabOk Try.mixed ?_ ?_); (focus rfl); (conv => whnf))
    | ((with_reducible refine AW.ret ?_); (conv => whnf))
    | ((with_reducible refine AW.block ?_))
    | (with_reducible refine AW.scope ?_)
    | ((with_reducible refine AW.label ?_); (conv => whnf))
    | ((with_reducible refine AW.exit ?_); (conv => whnf))
    | ((with_reducible refine AW.skip ?_); (conv => whnf))
    | ((with_reducible refine AW.cond ?_); (conv => whnf))
    | ((with_reducible refine Own2.data ?_); (conv => whnf))
    | ((with_reducible refine ACall.id ?_); (refine PCall.call (by first | exact c93 _ | exact c74 _ | exact c37 _ | exact c96 _ _ | exact hE _) rfl ?_); (intro x hx; first | subst hx | (obtain ⟨l_, rfl, hl_⟩ := hx.out)); (conv => whnf))
    | ((with_reducible refine ACall.id ?_); (refine ACall.intro Try.tabOk Try.f95 _ Try.func95 rfl (by decide) rfl ?_); intro z_)
    | ((with_reducible refine ACall.freeze rfl ?_); (conv => whnf))
    | (refine ⟨true, _, rfl, ?_⟩; (conv => whnf))
    | (refine ⟨false, .nilp, rfl, ?_⟩; (conv => whnf))
    | (refine ⟨_, _, by first | exact c93 _ | exact c74 _ | exact c37 _ | exact c96 _ _ | exact hE _, ?_⟩; (conv => whnf))
    | ((with_reducible apply Or.inl); (refine ⟨rfl, rfl, ?_⟩); (conv => whnf))
    | (refine ⟨_, ⟨rfl, rfl⟩, ?_⟩; (conv => whnf))
    | (refine ⟨_, ⟨rfl, getM (by first | omega | (simp; omega))⟩, ?_⟩; (conv => whnf))
    | ((with_reducible apply Or.inl); apply Exists.intro; apply And.intro; (focus (intro hg; (conv => whnf); (repeat' first | (with_reducible exact ⟨rfl, rfl⟩) | ((with_reducible refine Own2.data ?_); (conv => whnf)) | (refine ⟨true, _, rfl, ?_⟩; (conv => whnf)) | (refine ⟨false, .nilp, rfl, ?_⟩; (conv => whnf)) | (refine ⟨_, _, by first | exact c93 _ | exact c74 _ | exact c37 _ | exact c96 _ _ | exact hE _, ?_⟩; (conv => whnf)) | ((with_reducible apply Or.inl); (refine ⟨rfl, rfl, ?_⟩); (conv => whnf)) | ((with_reducible apply Or.inl); (with_reducible apply And.intro); (focus (simp only [rng]; omega)); (conv => whnf)) | (refine ⟨by first | omega | (simp at hg ⊢; omega) | (simp_all; first | done | fail), ?_⟩; (conv => whnf)) | ((with_reducible refine ACall.id ?_); (refine PCall.call (by first | exact c93 _ | exact c74 _ | exact c37 _ | exact c96 _ _ | exact hE _) rfl ?_); (intro x hx; first | subst hx | (obtain ⟨l_, rfl, hl_⟩ := hx.out)); (conv => whnf)) | (intro hlen; (conv => whnf))); done)); (conv => whnf))
    | (apply Exists.intro; apply And.intro; (focus (first | (intro hg; (conv => whnf)) | (conv => whnf)); (repeat' first | (with_reducible exact ⟨rfl, rfl⟩) | ((with_reducible refine Own2.data ?_); (conv => whnf)) | (refine ⟨true, _, rfl, ?_⟩; (conv => whnf)) | (refine ⟨false, .nilp, rfl, ?_⟩; (conv => whnf)) | (refine ⟨_, _, by first | exact c93 _ | exact c74 _ | exact c37 _ | exact c96 _ _ | exact hE _, ?_⟩; (conv => whnf)) | ((with_reducible apply Or.inl); (refine ⟨rfl, rfl, ?_⟩); (conv => whnf)) | ((with_reducible apply Or.inl); (with_reducible apply And.intro); (focus (simp only [rng]; omega)); (conv => whnf)) | (refine ⟨by first | omega | (simp at hg ⊢; omega) | (simp_all; first | done | fail), ?_⟩; (conv => whnf)) | ((with_reducible refine ACall.id ?_); (refine PCall.call (by first | exact c93 _ | exact c74 _ | exact c37 _ | exact c96 _ _ | exact hE _) rfl ?_); (intro x hx; first | subst hx | (obtain ⟨l_, rfl, hl_⟩ := hx.out)); (conv => whnf)) | (intro hlen; (conv => whnf))); done); (conv => whnf))
    | ((with_reducible apply Or.inl); (with_reducible apply And.intro); (focus (simp only [rng]; omega)); (conv => whnf))
    | ((with_reducible apply Or.inr); (with_reducible apply And.intro) <;> (intro hb; (try simp at hb); (try (exfalso; first | omega | (simp_all; first | done | fail))); (try (conv => whnf))))
    | ((with_reducible apply And.intro); (focus (first | omega | (exact True.intro) | (simp; omega) | (exact Nat.le_of_ble_eq_true rfl) | (exact ⟨rfl, Nat.le_of_ble_eq_true rfl⟩) | (exact ⟨Nat.le_of_ble_eq_true rfl, Nat.le_of_ble_eq_true rfl⟩) | (intro hg; first | (simp; first | done | fail) | (simp at hg ⊢; exact hg) | (simp at hg; exact hg) | exact hg))); (conv => whnf))
    | ((with_reducible apply And.intro) <;> (intro hb; (try simp at hb); (try (exfalso; first | omega | (simp_all; first | done | fail))); (try (conv => whnf))))
    | (intro hlen; (conv => whnf))
    | ((with_reducible refine And.intro (Side.out ?_) ?_); rotate_left; (conv => whnf); rotate_right)
  · have hit : i < o.refs.length := by assumption
    have hb : (o.kind = 2 ∧ o.refs[i]?.getD [] = lastK o.refs i ∨ o.kind = 3 ∧ o.refs[i]?.getD [] ∈ List.take i o.refs) ∨ nameB (o.refs[i]?.getD []) = false := by assumption
    rw [← List.getD_eq_getElem?_getD] at hb
    have hwr : wrongAt o.kind o.refs i = true := by
      unfold wrongAt
      simp only [Bool.or_eq_true, Bool.not_eq_true', decide_eq_true_eq]
      rcases hb with (⟨h1, h2⟩ | h) | h
      · by_cases h0 : i = 0
        · subst h0
          rw [show lastK o.refs 0 = [] from rfl] at h2
          left; left
          rw [h2]; rfl
        · left; right
          unfold lastK at h2
          rw [if_neg h0] at h2
          exact ⟨h1, by omega, h2.symm⟩
      · right; exact h
      · left; left; exact h
    have : objB o = false := by
      rw [Bool.eq_false_iff]
      intro h
      simp only [objB, Bool.and_eq_true] at h
      have := refsB_iff.1 h.1.2 i hit
      rw [hwr] at this; cases this
    rw [this]
  · have hit : i < o.refs.length := by assumption
    have hb : ((o.kind = 2 → ¬o.refs[i]?.getD [] = lastK o.refs i) ∧ (o.kind = 3 → ¬o.refs[i]?.getD [] ∈ List.take i o.refs)) ∧ nameB (o.refs[i]?.getD []) = true := by assumption
    rw [← List.getD_eq_getElem?_getD] at hb
    refine .mk (i + 1, updE (.str (o.refs.getD i [])) (.bool true) cl es, cond (hasE (.str (o.refs.getD i [])) es) cl (cl + 1)) ⟨hit, fun j hj => ?_, fun t => ?_⟩ (by show o.refs.length - (i + 1) < o.refs.length - i; omega) (by refine ⟨rfl, rfl, rfl, ?_, ?_, rfl⟩ <;> repeat' (first | exact trivial | exact OLe.refl _ | exact AV.le_refl _ | apply And.intro))
    · by_cases e : j = i
      · subst e
        unfold wrongAt
        simp only [Bool.or_eq_false_iff, decide_eq_false_iff_not, hb.2, Bool.not_true, true_and]
        refine ⟨fun h => hb.1.1 h.1 ?_, fun h => hb.1.2 h.1 h.2⟩
        unfold lastK
        rw [if_neg (by omega)]; exact h.2.2.symm
      · exact hw j (by dsimp only at hj; omega)
    · dsimp only
      rw [findE_upd, hE, take_succ_getD o.refs i [] hit]
      by_cases h1 : t = o.refs.getD i []
      · subst h1; simp
      · have : (t == o.refs.getD i []) = false := by simpa using h1
        rw [this, cond_false]
        congr 1
        rw [Bool.eq_iff_iff]
        simp only [decide_eq_true_eq, List.mem_append, List.mem_singleton, h1, or_false]
  all_goals (have hR : refsB o.kind o.refs = true := refsB_iff.2 fun j hj => hw j (by omega))
  · have h1 : o.kind = 1 := by assumption
    have : objB o = (bif ((o.refs.length : Int) == 0) then onGrid o.x o.y else false) := by
      unfold objB
      have hc : countB 1 o.refs.length = ((o.refs.length : Int) == 0) := by
        rw [Bool.eq_iff_iff]; simp only [countB, if_true, Bool.and_eq_true, decide_eq_true_eq, beq_iff_eq]; omega
      rw [hN.2.1, hN.2.2.1, hR, h1, hc, bif_and]
      simp [atB]
    rw [this]
  · have h5 : o.kind = 5 := by assumption
    have : objB o = (bif ((o.refs.length : Int) == 3) then o.x == 0 && (o.y == 0 && true) else false) := by
      unfold objB
      rw [hN.2.1, hN.2.2.1, hR, h5]
      rw [bif_and, Bool.eq_iff_iff]
      simp [countB, atB]
      omega
    rw [this]
  · have h5 : ¬ o.kind = 5 := by assumption
    have h1 : ¬ o.kind = 1 := by assumption
    have hl := hN.2.2.2.1
    have hl2 := hN.2.2.2.2
    have : objB o = (o.x == 0 && (o.y == 0 && true)) := by
      unfold objB
      rw [hN.2.1, hN.2.2.1, hR]
      have hc : countB o.kind o.refs.length = true := by
        have : o.kind = 2 ∨ o.kind = 3 ∨ o.kind = 4 := by omega
        unfold countB
        unfold kindLeast at hl
        rcases this with h | h | h <;> rw [h] at hl ⊢ <;> simp at hl ⊢ <;> omega
      rw [hc, Bool.eq_iff_iff]
      simp [atB, h1, hk]
    rw [this]

/-! ### Maps -/
def mapB (m : List Obj) : Bool := m.all objB && decide (ascP (ids m)) && decide (m.length ≤ 1000000)
theorem objB_id {o : Obj} (h : objB o = true) : o.id ≠ [] := by
  simp only [objB, Bool.and_eq_true] at h
  exact nameB_ne h.1.1.1.1.2
theorem ids_getD (m : List Obj) (i : Nat) : (ids m).getD i [] = (m.getD i default).id := map_getD (fun o : Obj => o.id) m i default
theorem c26 (m : List Obj) : PCall Try.prog 26 [.d (encMap m)] fun x => x = .d (.bool (mapB m)) := by
  refine PCall.intro Try.tabOk Try.f26 _ Try.func26 rfl (by decide) rfl fun z => ?_
  repeat' first
    | (with_reducible refine AW.seq ?_)
    | ((with_reducible refine AW.region Try.tabOk ?_); (conv => whnf))
    | ((with_reducible refine AW.draw Try.tabOk Try.mixed ?_ ?_); (focus rfl); (conv => whnf))
    | ((with_reducible refine AW.ret ?_); (conv => whnf))
    | ((with_reducible refine AW.block ?_))
    | (with_reducible refine AW.scope ?_)
    | ((with_reducible refine AW.label ?_); (conv => whnf))
    | ((with_reducible refine AW.exit ?_); (conv => whnf))
    | ((with_reducible refine AW.skip ?_); (conv => whnf))
    | ((with_reducible refine AW.cond ?_); (conv => whnf))
    | ((with_reducible refine Own2.data ?_); (conv => whnf))
    | ((with_reducible refine ACall.id ?_); (refine PCall.call (by first | exact c62 _) rfl ?_); (intro x hx; first | subst hx | (obtain ⟨l_, rfl, hl_⟩ := hx.out)); (conv => whnf))
    | ((with_reducible refine ACall.freeze rfl ?_); (conv => whnf))
    | (refine ⟨true, _, rfl, ?_⟩; (conv => whnf))
    | (refine ⟨false, .nilp, rfl, ?_⟩; (conv => whnf))
    | (refine ⟨_, _, by first | exact c62 _, ?_⟩; (conv => whnf))
    | ((with_reducible apply Or.inl); (refine ⟨rfl, rfl, ?_⟩); (conv => whnf))
    | (refine ⟨_, ⟨rfl, rfl⟩, ?_⟩; (conv => whnf))
    | (refine ⟨_, ⟨rfl, getM (by first | omega | (simp; omega))⟩, ?_⟩; (conv => whnf))
    | ((with_reducible apply Or.inl); apply Exists.intro; apply And.intro; (focus (intro hg; (conv => whnf); (repeat' first | (with_reducible exact ⟨rfl, rfl⟩) | ((with_reducible refine Own2.data ?_); (conv => whnf)) | (refine ⟨true, _, rfl, ?_⟩; (conv => whnf)) | (refine ⟨false, .nilp, rfl, ?_⟩; (conv => whnf)) | (refine ⟨_, _, by first | exact c62 _, ?_⟩; (conv => whnf)) | ((with_reducible apply Or.inl); (refine ⟨rfl, rfl, ?_⟩); (conv => whnf)) | ((with_reducible apply Or.inl); (with_reducible apply And.intro); (focus (simp only [rng]; omega)); (conv => whnf)) | (refine ⟨by first | omega | (simp at hg ⊢; omega) | (simp_all; first | done | fail), ?_⟩; (conv => whnf)) | ((with_reducible refine ACall.id ?_); (refine PCall.call (by first | exact c62 _) rfl ?_); (intro x hx; first | subst hx | (obtain ⟨l_, rfl, hl_⟩ := hx.out)); (conv => whnf)) | (intro hlen; (conv => whnf))); done)); (conv => whnf))
    | (apply Exists.intro; apply And.intro; (focus (first | (intro hg; (conv => whnf)) | (conv => whnf)); (repeat' first | (with_reducible exact ⟨rfl, rfl⟩) | ((with_reducible refine Own2.data ?_); (conv => whnf)) | (refine ⟨true, _, rfl, ?_⟩; (conv => whnf)) | (refine ⟨false, .nilp, rfl, ?_⟩; (conv => whnf)) | (refine ⟨_, _, by first | exact c62 _, ?_⟩; (conv => whnf)) | ((with_reducible apply Or.inl); (refine ⟨rfl, rfl, ?_⟩); (conv => whnf)) | ((with_reducible apply Or.inl); (with_reducible apply And.intro); (focus (simp only [rng]; omega)); (conv => whnf)) | (refine ⟨by first | omega | (simp at hg ⊢; omega) | (simp_all; first | done | fail), ?_⟩; (conv => whnf)) | ((with_reducible refine ACall.id ?_); (refine PCall.call (by first | exact c62 _) rfl ?_); (intro x hx; first | subst hx | (obtain ⟨l_, rfl, hl_⟩ := hx.out)); (conv => whnf)) | (intro hlen; (conv => whnf))); done); (conv => whnf))
    | ((with_reducible apply Or.inl); (with_reducible apply And.intro); (focus (simp only [rng]; omega)); (conv => whnf))
    | ((with_reducible apply Or.inr); (with_reducible apply And.intro) <;> (intro hb; (try simp at hb); (try (exfalso; first | omega | (simp_all; first | done | fail))); (try (conv => whnf))))
    | ((with_reducible apply And.intro); (focus (first | omega | (exact True.intro) | (simp; omega) | (exact Nat.le_of_ble_eq_true rfl) | (exact ⟨rfl, Nat.le_of_ble_eq_true rfl⟩) | (exact ⟨Nat.le_of_ble_eq_true rfl, Nat.le_of_ble_eq_true rfl⟩) | (intro hg; first | (simp; first | done | fail) | (simp at hg ⊢; exact hg) | (simp at hg; exact hg) | exact hg))); (conv => whnf))
    | ((with_reducible apply And.intro) <;> (intro hb; (try simp at hb); (try (exfalso; first | omega | (simp_all; first | done | fail))); (try (conv => whnf))))
    | (intro hlen; (conv => whnf))
    | ((with_reducible refine And.intro (Side.out ?_) ?_); rotate_left; (conv => whnf); rotate_right)
  refine AW.loopS (X := Nat) [8, 7, 2, 1] [0] (fun i => [(9, .d (.int .i64 (i : Int))), (3, .d (.str (lastK (ids m) i)))]) (fun _ => []) (fun _ => 1)
    (fun i => i ≤ m.length ∧ (∀ j, j < i → objB (m.getD j default) = true) ∧ ∀ j, j + 1 < i → ltS (m.getD j default).id (m.getD (j + 1) default).id = true) (fun i => m.length - i) 0
    ⟨Nat.zero_le _, fun j h => absurd h (Nat.not_lt_zero j), fun j h => absurd h (Nat.not_lt_zero _)⟩ (fun _ _ => rfl) (by refine ⟨rfl, rfl, rfl, ?_, ?_⟩ <;> repeat' (first | exact trivial | exact OLe.refl _ | exact AV.le_refl _ | apply And.intro)) ?_
  intro i ⟨hi, hw, ha⟩
  repeat' first
    | (with_reducible refine AW.seq ?_)
    | ((with_reducible refine AW.region Try.tabOk ?_); (conv => whnf))
    | ((with_reducible refine AW.draw Try.tabOk Try.mixed ?_ ?_); (focus rfl); (conv => whnf))
    | ((with_reducible refine AW.ret ?_); (conv => whnf))
    | ((with_reducible refine AW.block ?_))
    | (with_reducible refine AW.scope ?_)
    | ((with_reducible refine AW.label ?_); (conv => whnf))
    | ((with_reducible refine AW.exit ?_); (conv => whnf))
    | ((with_reducible refine AW.skip ?_); (conv => whnf))
    | ((with_reducible refine AW.cond ?_); (conv => whnf))
    | ((with_reducible refine Own2.data ?_); (conv => whnf))
    | ((with_reducible refine ACall.id ?_); (refine PCall.call (by first | exact c62 _) rfl ?_); (intro x hx; first | subst hx | (obtain ⟨l_, rfl, hl_⟩ := hx.out)); (conv => whnf))
    | ((with_reducible refine ACall.freeze rfl ?_); (conv => whnf))
    | (refine ⟨true, _, rfl, ?_⟩; (conv => whnf))
    | (refine ⟨false, .nilp, rfl, ?_⟩; (conv => whnf))
    | (refine ⟨_, _, by first | exact c62 _, ?_⟩; (conv => whnf))
    | ((with_reducible apply Or.inl); (refine ⟨rfl, rfl, ?_⟩); (conv => whnf))
    | (refine ⟨_, ⟨rfl, rfl⟩, ?_⟩; (conv => whnf))
    | (refine ⟨_, ⟨rfl, getM (by first | omega | (simp; omega))⟩, ?_⟩; (conv => whnf))
    | ((with_reducible apply Or.inl); apply Exists.intro; apply And.intro; (focus (intro hg; (conv => whnf); (repeat' first | (with_reducible exact ⟨rfl, rfl⟩) | ((with_reducible refine Own2.data ?_); (conv => whnf)) | (refine ⟨true, _, rfl, ?_⟩; (conv => whnf)) | (refine ⟨false, .nilp, rfl, ?_⟩; (conv => whnf)) | (refine ⟨_, _, by first | exact c62 _, ?_⟩; (conv => whnf)) | ((with_reducible apply Or.inl); (refine ⟨rfl, rfl, ?_⟩); (conv => whnf)) | ((with_reducible apply Or.inl); (with_reducible apply And.intro); (focus (simp only [rng]; omega)); (conv => whnf)) | (refine ⟨by first | omega | (simp at hg ⊢; omega) | (simp_all; first | done | fail), ?_⟩; (conv => whnf)) | ((with_reducible refine ACall.id ?_); (refine PCall.call (by first | exact c62 _) rfl ?_); (intro x hx; first | subst hx | (obtain ⟨l_, rfl, hl_⟩ := hx.out)); (conv => whnf)) | (intro hlen; (conv => whnf))); done)); (conv => whnf))
    | (apply Exists.intro; apply And.intro; (focus (first | (intro hg; (conv => whnf)) | (conv => whnf)); (repeat' first | (with_reducible exact ⟨rfl, rfl⟩) | ((with_reducible refine Own2.data ?_); (conv => whnf)) | (refine ⟨true, _, rfl, ?_⟩; (conv => whnf)) | (refine ⟨false, .nilp, rfl, ?_⟩; (conv => whnf)) | (refine ⟨_, _, by first | exact c62 _, ?_⟩; (conv => whnf)) | ((with_reducible apply Or.inl); (refine ⟨rfl, rfl, ?_⟩); (conv => whnf)) | ((with_reducible apply Or.inl); (with_reducible apply And.intro); (focus (simp only [rng]; omega)); (conv => whnf)) | (refine ⟨by first | omega | (simp at hg ⊢; omega) | (simp_all; first | done | fail), ?_⟩; (conv => whnf)) | ((with_reducible refine ACall.id ?_); (refine PCall.call (by first | exact c62 _) rfl ?_); (intro x hx; first | subst hx | (obtain ⟨l_, rfl, hl_⟩ := hx.out)); (conv => whnf)) | (intro hlen; (conv => whnf))); done); (conv => whnf))
    | ((with_reducible apply Or.inl); (with_reducible apply And.intro); (focus (simp only [rng]; omega)); (conv => whnf))
    | ((with_reducible apply Or.inr); (with_reducible apply And.intro) <;> (intro hb; (try simp at hb); (try (exfalso; first | omega | (simp_all; first | done | fail))); (try (conv => whnf))))
    | ((with_reducible apply And.intro); (focus (first | omega | (exact True.intro) | (simp; omega) | (exact Nat.le_of_ble_eq_true rfl) | (exact ⟨rfl, Nat.le_of_ble_eq_true rfl⟩) | (exact ⟨Nat.le_of_ble_eq_true rfl, Nat.le_of_ble_eq_true rfl⟩) | (intro hg; first | (simp; first | done | fail) | (simp at hg ⊢; exact hg) | (simp at hg; exact hg) | exact hg))); (conv => whnf))
    | ((with_reducible apply And.intro) <;> (intro hb; (try simp at hb); (try (exfalso; first | omega | (simp_all; first | done | fail))); (try (conv => whnf))))
    | (intro hlen; (conv => whnf))
    | ((with_reducible refine And.intro (Side.out ?_) ?_); rotate_left; (conv => whnf); rotate_right)
  · have hit : i < m.length := by assumption
    have hb : objB (m[i]?.getD default) = false ∨ Op.bytesLess (m[i]?.getD default).id (lastK (ids m) i) = true ∨ (m[i]?.getD default).id = lastK (ids m) i := by assumption
    rw [← List.getD_eq_getElem?_getD] at hb
    have : mapB m = false := by
      rw [Bool.eq_false_iff]
      intro h
      simp only [mapB, Bool.and_eq_true, decide_eq_true_eq] at h
      obtain ⟨⟨h1, h2⟩, h3⟩ := h
      have h1 := (List.all_eq_true.1 h1) (m.getD i default) (by rw [List.getD_eq_getElem?_getD, List.getElem?_eq_getElem hit]; simp)
      rcases hb with hb | hb
      · rw [hb] at h1; cases h1
      · have hlt : ltS (lastK (ids m) i) (m.getD i default).id = true := by
          unfold lastK
          split
          · exact nil_lt (objB_id h1)
          · have := h2 (i - 1) (by simp [ids]; omega)
            rw [show i - 1 + 1 = i by omega, ids_getD m i] at this
            exact this
        rcases hb with hb | hb
        · have := ltS_asymm hlt
          rw [show ltS (m.getD i default).id (lastK (ids m) i) = true from hb] at this; cases this
        · exact ltS_ne hlt hb.symm
    rw [this]
  · have hit : i < m.length := by assumption
    have hb : objB (m[i]?.getD default) = true ∧ Op.bytesLess (m[i]?.getD default).id (lastK (ids m) i) = false ∧ ¬(m[i]?.getD default).id = lastK (ids m) i := by assumption
    rw [← List.getD_eq_getElem?_getD] at hb
    have hlk : ∀ k, lastK (ids m) (k + 1) = (m.getD k default).id := fun k => ids_getD m k
    refine .mk (i + 1) ⟨hit, fun j hj => ?_, fun j hj => ?_⟩ (by show m.length - (i + 1) < m.length - i; omega) ⟨rfl, rfl, rfl, ⟨OLe.refl _, trivial⟩, ⟨AV.le_refl _, AV.le_of_eq (by rw [hlk i]; rfl), AV.le_refl _, AV.le_refl _, AV.le_refl _, AV.le_refl _, trivial⟩, rfl⟩
    · by_cases e : j = i
      · subst e; exact hb.1
      · exact hw j (by omega)
    · by_cases e : j + 1 = i
      · have hl : lastK (ids m) i = (m.getD j default).id := by rw [← e]; exact hlk j
        rw [hl] at hb
        rcases ltS_tri (m.getD j default).id (m.getD i default).id with h | h | h
        · rw [e]; exact h
        · exact absurd h.symm hb.2.2
        · have := hb.2.1
          rw [show Op.bytesLess (m.getD i default).id (m.getD j default).id = ltS (m.getD i default).id (m.getD j default).id from rfl, h] at this; cases this
      · exact ha j (by omega)
  · have he : i = m.length := by omega
    subst he
    have h1 : m.all objB = true := all_of_getD default hw
    have h2 : ascP (ids m) := fun j hj => by
      rw [ids, List.length_map] at hj
      rw [ids_getD, ids_getD]; exact ha j hj
    have : mapB m = decide ((m.length : Int) ≤ 1000000) := by
      rw [Bool.eq_iff_iff]
      simp only [mapB, h1, h2, decide_true, Bool.and_true, Bool.true_and, decide_eq_true_eq]
      omega
    rw [this]
end Go.Proofs
end
section
/- Contracts: fields of strings. -/
namespace Go.Proofs
open Go.Pm
set_option maxRecDepth 100000
set_option maxHeartbeats 4000000

def blankN (n : Nat) : Bool := decide (n = 32) || decide (n = 9) || decide (n = 10)
def blank (c : UInt8) : Bool := blankN c.toNat
theorem c69 (n : Nat) : PCall Try.prog 69 [.d (.int .i32 (n : Int))] fun x => x = .d (.bool (blankN n)) := by
  refine PCall.intro Try.tabOk Try.f69 _ Try.func69 rfl (by decide) rfl fun z => ?_
  repeat' first
    | (with_reducible refine AW.seq ?_)
    | ((with_reducible refine AW.region Try.tabOk ?_); (conv => whnf))
    | ((with_reducible refine AW.draw Try.tabOk Try.mixed ?_ ?_); (focus rfl); (conv => whnf))
    | ((with_reducible refine AW.ret ?_); (conv => whnf))
    | ((with_reducible refine AW.block ?_))
    | (with_reducible refine AW.scope ?_)
    | ((with_reducible refine AW.label ?_); (conv => whnf))
    | ((with_reducible refine AW.exit ?_); (conv => whnf))
    | ((with_reducible refine AW.skip ?_); (conv => whnf))
    | ((with_reducible refine AW.cond ?_); (conv => whnf))
    | ((with_reducible refine Own2.data ?_); (conv => whnf))
    | ((with_reducible refine ACall.id ?_); (refine PCall.call (by first | fail) rfl ?_); (intro x hx; first | subst hx | (obtain ⟨l_, rfl, hl_⟩ := hx.out)); (conv => whnf))
    | ((with_reducible refine ACall.freeze rfl ?_); (conv => whnf))
    | (refine ⟨true, _, rfl, ?_⟩; (conv => whnf))
    | (refine ⟨false, .nilp, rfl, ?_⟩; (conv => whnf))
    | (refine ⟨_, _, by first | fail, ?_⟩; (conv => whnf))
    | ((with_reducible apply Or.inl); (refine ⟨rfl, rfl, ?_⟩); (conv => whnf))
    | (refine ⟨_, ⟨rfl, rfl⟩, ?_⟩; (conv => whnf))
    | (refine ⟨_, ⟨rfl, getM (by first | omega | (simp; omega))⟩, ?_⟩; (conv => whnf))
    | ((with_reducible apply Or.inl); apply Exists.intro; apply And.intro; (focus (intro hg; (conv => whnf); (repeat' first | (with_reducible exact ⟨rfl, rfl⟩) | ((with_reducible refine Own2.data ?_); (conv => whnf)) | (refine ⟨true, _, rfl, ?_⟩; (conv => whnf)) | (refine ⟨false, .nilp, rfl, ?_⟩; (conv => whnf)) | (refine ⟨_, _, by first | fail, ?_⟩; (conv => whnf)) | ((with_reducible apply Or.inl); (refine ⟨rfl, rfl, ?_⟩); (conv => whnf)) | ((with_reducible apply Or.inl); (with_reducible apply And.intro); (focus (simp only [rng]; omega)); (conv => whnf)) | (refine ⟨by first | omega | (simp at hg ⊢; omega) | (simp_all; first | done | fail), ?_⟩; (conv => whnf)) | ((with_reducible refine ACall.id ?_); (refine PCall.call (by first | fail) rfl ?_); (intro x hx; first | subst hx | (obtain ⟨l_, rfl, hl_⟩ := hx.out)); (conv => whnf)) | (intro hlen; (conv => whnf))); done)); (conv => whnf))
    | (apply Exists.intro; apply And.intro; (focus (first | (intro hg; (conv => whnf)) | (conv => whnf)); (repeat' first | (with_reducible exact ⟨rfl, rfl⟩) | ((with_reducible refine Own2.data ?_); (conv => whnf)) | (refine ⟨true, _, rfl, ?_⟩; (conv => whnf)) | (refine ⟨false, .nilp, rfl, ?_⟩; (conv => whnf)) | (refine ⟨_, _, by first | fail, ?_⟩; (conv => whnf)) | ((with_reducible apply Or.inl); (refine ⟨rfl, rfl, ?_⟩); (conv => whnf)) | ((with_reducible apply Or.inl); (with_reducible apply And.intro); (focus (simp only [rng]; omega)); (conv => whnf)) | (refine ⟨by first | omega | (simp at hg ⊢; omega) | (simp_all; first | done | fail), ?_⟩; (conv => whnf)) | ((with_reducible refine ACall.id ?_); (refine PCall.call (by first | fail) rfl ?_); (intro x hx; first | subst hx | (obtain ⟨l_, rfl, hl_⟩ := hx.out)); (conv => whnf)) | (intro hlen; (conv => whnf))); done); (conv => whnf))
    | ((with_reducible apply Or.inl); (with_reducible apply And.intro); (focus (simp only [rng]; omega)); (conv => whnf))
    | ((with_reducible apply Or.inr); (with_reducible apply And.intro) <;> (intro hb; (try simp at hb); (try (exfalso; first | omega | (simp_all; first | done | fail))); (try (conv => whnf))))
    | ((with_reducible apply And.intro); (focus (first | omega | (exact True.intro) | (simp; omega) | (exact Nat.le_of_ble_eq_true rfl) | (exact ⟨rfl, Nat.le_of_ble_eq_true rfl⟩) | (exact ⟨Nat.le_of_ble_eq_true rfl, Nat.le_of_ble_eq_true rfl⟩) | (intro hg; first | (simp; first | done | fail) | (simp at hg ⊢; exact hg) | (simp at hg; exact hg) | exact hg))); (conv => whnf))
    | ((with_reducible apply And.intro) <;> (intro hb; (try simp at hb); (try (exfalso; first | omega | (simp_all; first | done | fail))); (try (conv => whnf))))
    | (intro hlen; (conv => whnf))
    | ((with_reducible refine And.intro (Side.out ?_) ?_); rotate_left; (conv => whnf); rotate_right)
  rw [bif_or, bif_or]
  congr 2
  rw [Bool.eq_iff_iff]; simp only [blankN, Bool.or_eq_true, beq_iff_eq, decide_eq_true_eq]; omega

def wordsA : Str → Str → List Str
  | [], cur => if cur = [] then [] else [cur]
  | c :: r, cur => if blank c then (if cur = [] then wordsA r [] else cur :: wordsA r []) else wordsA r (cur ++ [c])
def words (s : Str) : List Str := wordsA s []
def encSpan (p : Nat × Nat) : D := .agg [.int .i64 (p.1 : Int), .int .i64 (p.2 : Int)]
def piece (s : Str) (p : Nat × Nat) : Str := (s.take p.2).drop p.1
theorem wordsA_run (s : Str) (cur : Str) (w : Nat) (h : ∀ j, j < w → j < s.length → blank (s.getD j 0) = false) : wordsA s cur = wordsA (s.drop w) (cur ++ s.take w) := by
  induction w generalizing s cur with
  | zero => simp
  | succ w ih =>
    cases s with
    | nil => simp
    | cons c r =>
      have h0 : blank c = false := h 0 (by omega) (by simp)
      rw [wordsA, h0]
      simp only [Bool.false_eq_true, if_false, List.drop_succ_cons, List.take_succ_cons]
      rw [ih r (cur ++ [c]) (fun j h1 h2 => h (j + 1) (by omega) (by simpa using h2))]
      simp

def curOf (s : Str) (st : Int) (pos : Nat) : Str := if 0 ≤ st then piece s (st.toNat, pos) else []
theorem drop_cons {s : Str} {pos : Nat} (h : pos < s.length) : s.drop pos = s.getD pos 0 :: s.drop (pos + 1) := by
  rw [List.drop_eq_getElem_cons h, List.getD_eq_getElem?_getD, List.getElem?_eq_getElem h]; rfl
theorem piece_ne {s : Str} {a b : Nat} (h : a < b) (hb : b ≤ s.length) : piece s (a, b) ≠ [] := by
  unfold piece
  rw [Ne, List.drop_eq_nil_iff, List.length_take]; omega
theorem piece_add {s : Str} {a b w : Nat} (h : a ≤ b) (hb : b + w ≤ s.length) : piece s (a, b + w) = piece s (a, b) ++ (s.drop b).take w := by
  unfold piece
  rw [List.take_add, List.drop_append]
  congr 1
  rw [List.length_take]
  have : a - min b s.length = 0 := by omega
  rw [this]; rfl
theorem rune_blank {s : Str} {pos : Nat} (h : pos < s.length) : (blankN (runeAt s pos).1 = blank (s.getD pos 0)) ∧ (blank (s.getD pos 0) = true → (runeAt s pos).2 = 1) ∧
    (blank (s.getD pos 0) = false → ∀ j, pos ≤ j → j < pos + (runeAt s pos).2 → blank (s.getD j 0) = false) := by
  by_cases hc : (s.getD pos 0).toNat < 128
  · rw [rune_low h hc]
    refine ⟨rfl, fun _ => rfl, fun hb j h1 h2 => ?_⟩
    have h2 : j < pos + 1 := h2
    have : j = pos := by omega
    rw [this]; exact hb
  · have hh := rune_high h (by omega)
    have hf : ∀ n : Nat, 128 ≤ n → blankN n = false := fun n hn => by
      simp only [blankN, Bool.or_eq_false_iff, decide_eq_false_iff_not]; omega
    have h1 : blank (s.getD pos 0) = false := hf _ (by omega)
    exact ⟨by rw [h1]; exact hf _ hh.rune, fun h => (by rw [h1] at h; cases h), fun _ j h2 h3 => hf _ (hh.bytes j h2 h3)⟩
theorem set_fill {α β : Type} {S : List α} {k : Nat} (h : k < S.length) (f : α → β) (z : β) (d : α) : ((S.take k).map f ++ List.replicate (S.length - k) z).set k (f (S.getD k d)) = (S.take (k + 1)).map f ++ List.replicate (S.length - (k + 1)) z := by
  rw [take_succ_getD S k d h, List.map_append, List.append_assoc, List.set_append_right _ _ (by rw [List.length_map, List.length_take]; omega)]
  congr 1
  have e : S.length - k = (S.length - (k + 1)) + 1 := by omega
  rw [List.length_map, List.length_take, Nat.min_eq_left (by omega), Nat.sub_self, e, List.replicate_succ]
  rfl
structure FInv (s : Str) (pos : Nat) (S : List (Nat × Nat)) (st : Int) : Prop where
  hi : pos ≤ s.length
  hst : 0 ≤ st → st < pos
  hlo : -1000000000001 ≤ st
  hwd : words s = S.map (piece s) ++ wordsA (s.drop pos) (curOf s st pos)
  hSl : S.length ≤ pos
  hSp : ∀ p ∈ S, p.1 ≤ p.2 ∧ p.2 ≤ s.length
theorem FInv.blank1 {s : Str} (hs : s.length ≤ 1000000000000) {pos : Nat} {S : List (Nat × Nat)} {st : Int} (h : FInv s pos S st) (hp : pos < s.length) (hb : blankN (runeAt s pos).1 = true) (h0 : 0 ≤ st) : FInv s (pos + (runeAt s pos).2) (S ++ [(st.toNat, pos)]) (-1 - st) := by
  obtain ⟨r1, r2, _⟩ := rune_blank hp
  rw [hb] at r1
  rw [r2 r1.symm]
  have hlt := h.hst h0
  refine ⟨hp, fun h => by omega, by have := h.hi; omega, ?_, by have := h.hSl; simp; omega, fun p hpm => ?_⟩
  · rw [h.hwd, drop_cons hp, wordsA, ← r1, if_pos rfl]
    have hc : curOf s st pos = piece s (st.toNat, pos) := if_pos h0
    rw [hc, if_neg (piece_ne (by omega) h.hi)]
    have : curOf s (-1 - st) (pos + 1) = [] := if_neg (by omega)
    rw [this]; simp
  · rcases List.mem_append.1 hpm with hm | hm
    · exact h.hSp p hm
    · rw [List.mem_singleton.1 hm]; exact ⟨by show st.toNat ≤ pos; omega, h.hi⟩
theorem FInv.blank2 {s : Str} {pos : Nat} {S : List (Nat × Nat)} {st : Int} (h : FInv s pos S st) (hp : pos < s.length) (hb : blankN (runeAt s pos).1 = true) (h0 : st < 0) : FInv s (pos + (runeAt s pos).2) S st := by
  obtain ⟨r1, r2, _⟩ := rune_blank hp
  rw [hb] at r1
  rw [r2 r1.symm]
  refine ⟨hp, fun h => by omega, h.hlo, ?_, by have := h.hSl; omega, h.hSp⟩
  rw [h.hwd, drop_cons hp, wordsA, ← r1, if_pos rfl]
  have hc : ∀ q, curOf s st q = [] := fun q => if_neg (by omega)
  rw [hc, hc, if_pos rfl]
theorem FInv.word1 {s : Str} {pos : Nat} {S : List (Nat × Nat)} {st : Int} (h : FInv s pos S st) (hp : pos < s.length) (hb : blankN (runeAt s pos).1 = false) (h0 : st < 0) : FInv s (pos + (runeAt s pos).2) S (pos : Int) := by
  obtain ⟨r1, _, r3⟩ := rune_blank hp
  rw [hb] at r1
  have hs2 := rune_step hp
  refine ⟨hs2.2, fun _ => by omega, by omega, ?_, by have := h.hSl; omega, h.hSp⟩
  have hc : curOf s st pos = [] := if_neg (by omega)
  rw [h.hwd, hc, wordsA_run _ _ (runeAt s pos).2 (fun j h1 h2 => by
    rw [List.getD_eq_getElem?_getD, List.getElem?_drop, ← List.getD_eq_getElem?_getD]
    exact r3 r1.symm (pos + j) (by omega) (by omega)), List.drop_drop]
  have hc2 : curOf s (pos : Int) (pos + (runeAt s pos).2) = (s.drop pos).take (runeAt s pos).2 := by
    unfold curOf
    rw [if_pos (by omega), Int.toNat_natCast, piece_add (Nat.le_refl _) hs2.2]
    have : piece s (pos, pos) = [] := by unfold piece; rw [List.drop_eq_nil_iff, List.length_take]; omega
    rw [this]; rfl
  rw [hc2]; simp
theorem FInv.word2 {s : Str} {pos : Nat} {S : List (Nat × Nat)} {st : Int} (h : FInv s pos S st) (hp : pos < s.length) (hb : blankN (runeAt s pos).1 = false) (h0 : 0 ≤ st) : FInv s (pos + (runeAt s pos).2) S st := by
  obtain ⟨r1, _, r3⟩ := rune_blank hp
  rw [hb] at r1
  have hs2 := rune_step hp
  have hlt := h.hst h0
  refine ⟨hs2.2, fun _ => by omega, h.hlo, ?_, by have := h.hSl; omega, h.hSp⟩
  have hc : ∀ q, curOf s st q = piece s (st.toNat, q) := fun q => if_pos h0
  rw [h.hwd, hc, hc, wordsA_run _ _ (runeAt s pos).2 (fun j h1 h2 => by
    rw [List.getD_eq_getElem?_getD, List.getElem?_drop, ← List.getD_eq_getElem?_getD]
    exact r3 r1.symm (pos + j) (by omega) (by omega)), List.drop_drop, piece_add (by omega) hs2.2]
theorem FInv.end1 {s : Str} {pos : Nat} {S : List (Nat × Nat)} {st : Int} (h : FInv s pos S st) (hp : s.length ≤ pos) (h0 : 0 ≤ st) : words s = (S ++ [(st.toNat, s.length)]).map (piece s) := by
  have he : pos = s.length := Nat.le_antisymm h.hi hp
  subst he
  have hlt := h.hst h0
  have hc : curOf s st s.length = piece s (st.toNat, s.length) := if_pos h0
  rw [h.hwd, List.drop_length, hc, wordsA, if_neg (piece_ne (by omega) (Nat.le_refl _))]; simp
theorem FInv.end2 {s : Str} {pos : Nat} {S : List (Nat × Nat)} {st : Int} (h : FInv s pos S st) (hp : s.length ≤ pos) (h0 : st < 0) : words s = S.map (piece s) := by
  have he : pos = s.length := Nat.le_antisymm h.hi hp
  subst he
  have hc : curOf s st s.length = [] := if_neg (by omega)
  rw [h.hwd, List.drop_length, hc, wordsA, if_pos rfl]; simp
theorem c68 (s : Str) (hs : s.length ≤ 1000000000000) : PCall Try.prog 68 [.d (.str s), .d (.fn 69)] fun x => x = .d (encStrs (words s)) := by
  refine PCall.strs ?_
  refine PCall.intro Try.tabOk Try.f68 _ Try.func68 rfl (by decide) rfl fun z => ?_
  repeat' first
    | (with_reducible refine AW.seq ?_)
    | ((with_reducible refine AW.region Try.tabOk ?_); (conv => whnf))
    | ((with_reducible refine AW.draw Try.tabOk Try.mixed ?_ ?_); (focus rfl); (conv => whnf))
    | ((with_reducible refine AW.ret ?_); (conv => whnf))
    | ((with_reducible refine AW.block ?_))
    | (with_reducible refine AW.scope ?_)
    | ((with_reducible refine AW.label ?_); (conv => whnf))
    | ((with_reducible refine AW.exit ?_); (conv => whnf))
    | ((with_reducible refine AW.skip ?_); (conv => whnf))
    | ((with_reducible refine AW.cond ?_); (conv => whnf))
    | ((with_reducible refine Own2.own ?_); (conv => whnf))
    | ((with_reducible refine ACall.id ?_); (refine PCall.call (by first | exact c69 _) rfl ?_); (intro x hx; first | subst hx | (obtain ⟨l_, rfl, hl_⟩ := hx.out)); (conv => whnf))
    | ((with_reducible refine ACall.freeze rfl ?_); (conv => whnf))
    | (refine ⟨true, _, rfl, ?_⟩; (conv => whnf))
    | (refine ⟨false, .nilp, rfl, ?_⟩; (conv => whnf))
    | (refine ⟨_, _, by first | exact c69 _, ?_⟩; (conv => whnf))
    | ((with_reducible apply Or.inl); (refine ⟨rfl, rfl, ?_⟩); (conv => whnf))
    | (refine ⟨_, ⟨rfl, rfl⟩, ?_⟩; (conv => whnf))
    | (refine ⟨_, ⟨rfl, getM (by first | omega | (simp; omega))⟩, ?_⟩; (conv => whnf))
    | ((with_reducible apply Or.inl); apply Exists.intro; apply And.intro; (focus (intro hg; (conv => whnf); (repeat' first | (with_reducible exact ⟨rfl, rfl⟩) | ((with_reducible refine Own2.own ?_); (conv => whnf)) | (refine ⟨true, _, rfl, ?_⟩; (conv => whnf)) | (refine ⟨false, .nilp, rfl, ?_⟩; (conv => whnf)) | (refine ⟨_, _, by first | exact c69 _, ?_⟩; (conv => whnf)) | ((with_reducible apply Or.inl); (refine ⟨rfl, rfl, ?_⟩); (conv => whnf)) | ((with_reducible apply Or.inl); (with_reducible apply And.intro); (focus (simp only [rng]; omega)); (conv => whnf)) | (refine ⟨by first | omega | (simp at hg ⊢; omega) | (simp_all; first | done | fail), ?_⟩; (conv => whnf)) | ((with_reducible refine ACall.id ?_); (refine PCall.call (by first | exact c69 _) rfl ?_); (intro x hx; first | subst hx | (obtain ⟨l_, rfl, hl_⟩ := hx.out)); (conv => whnf)) | (intro hlen; (conv => whnf))); done)); (conv => whnf))
    | (apply Exists.intro; apply And.intro; (focus (first | (intro hg; (conv => whnf)) | (conv => whnf)); (repeat' first | (with_reducible exact ⟨rfl, rfl⟩) | ((with_reducible refine Own2.own ?_); (conv => whnf)) | (refine ⟨true, _, rfl, ?_⟩; (conv => whnf)) | (refine ⟨false, .nilp, rfl, ?_⟩; (conv => whnf)) | (refine ⟨_, _, by first | exact c69 _, ?_⟩; (conv => whnf)) | ((with_reducible apply Or.inl); (refine ⟨rfl, rfl, ?_⟩); (conv => whnf)) | ((with_reducible apply Or.inl); (with_reducible apply And.intro); (focus (simp only [rng]; omega)); (conv => whnf)) | (refine ⟨by first | omega | (simp at hg ⊢; omega) | (simp_all; first | done | fail), ?_⟩; (conv => whnf)) | ((with_reducible refine ACall.id ?_); (refine PCall.call (by first | exact c69 _) rfl ?_); (intro x hx; first | subst hx | (obtain ⟨l_, rfl, hl_⟩ := hx.out)); (conv => whnf)) | (intro hlen; (conv => whnf))); done); (conv => whnf))
    | ((with_reducible apply Or.inl); (with_reducible apply And.intro); (focus (simp only [rng]; omega)); (conv => whnf))
    | ((with_reducible apply Or.inr); (with_reducible apply And.intro) <;> (intro hb; (try simp at hb); (try (exfalso; first | omega | (simp_all; first | done | fail))); (try (conv => whnf))))
    | ((with_reducible apply And.intro); (focus (first | omega | (exact True.intro) | (simp; omega) | (exact Nat.le_of_ble_eq_true rfl) | (exact ⟨rfl, Nat.le_of_ble_eq_true rfl⟩) | (exact ⟨Nat.le_of_ble_eq_true rfl, Nat.le_of_ble_eq_true rfl⟩) | (intro hg; first | (simp; first | done | fail) | (simp at hg ⊢; exact hg) | (simp at hg; exact hg) | exact hg))); (conv => whnf))
    | ((with_reducible apply And.intro) <;> (intro hb; (try simp at hb); (try (exfalso; first | omega | (simp_all; first | done | fail))); (try (conv => whnf))))
    | (intro hlen; (conv => whnf))
    | ((with_reducible refine And.intro (Side.out ?_) ?_); rotate_left; (conv => whnf); rotate_right)
  · exact ⟨by decide⟩
  refine AW.loopS (X := Nat × List (Nat × Nat) × Int) [14, 0, 1] [] (fun x => [(6, .d (.int .i64 x.2.2)), (5, .own 0 (x.2.1.length + 1) 2)]) (fun x => [(1, .siter s x.1), (0, .row 125 2 (x.2.1.map encSpan) (x.2.1.length + 1))]) (fun _ => 2)
    (fun x => FInv s x.1 x.2.1 x.2.2) (fun x => s.length - x.1) (0, [], -1)
    ⟨Nat.zero_le _, fun h => absurd h (by decide), by decide, rfl, Nat.le_refl _, fun p h => by cases h⟩ (fun _ _ => rfl) (by refine ⟨rfl, rfl, rfl, ?_, ?_⟩ <;> repeat' (first | exact trivial | exact OLe.refl _ | exact AV.le_refl _ | apply And.intro)) ?_
  intro ⟨pos, S, st⟩ hF
  dsimp only at hF
  have hi := hF.hi
  have hSl := hF.hSl
  repeat' first
    | (with_reducible refine AW.seq ?_)
    | ((with_reducible refine AW.region Try.tabOk ?_); (conv => whnf))
    | ((with_reducible refine AW.draw Try.tabOk Try.mixed ?_ ?_); (focus rfl); (conv => whnf))
    | ((with_reducible refine AW.ret ?_); (conv => whnf))
    | ((with_reducible refine AW.block ?_))
    | (with_reducible refine AW.scope ?_)
    | ((with_reducible refine AW.label ?_); (conv => whnf))
    | ((with_reducible refine AW.exit ?_); (conv => whnf))
    | ((with_reducible refine AW.skip ?_); (conv => whnf))
    | ((with_reducible refine AW.cond ?_); (conv => whnf))
    | ((with_reducible refine Own2.own ?_); (conv => whnf))
    | ((with_reducible refine ACall.id ?_); (refine PCall.call (by first | exact c69 _) rfl ?_); (intro x hx; first | subst hx | (obtain ⟨l_, rfl, hl_⟩ := hx.out)); (conv => whnf))
    | ((with_reducible refine ACall.freeze rfl ?_); (conv => whnf))
    | (refine ⟨true, _, rfl, ?_⟩; (conv => whnf))
    | (refine ⟨false, .nilp, rfl, ?_⟩; (conv => whnf))
    | (refine ⟨_, _, by first | exact c69 _, ?_⟩; (conv => whnf))
    | ((with_reducible apply Or.inl); (refine ⟨rfl, rfl, ?_⟩); (conv => whnf))
    | (refine ⟨_, ⟨rfl, rfl⟩, ?_⟩; (conv => whnf))
    | (refine ⟨_, ⟨rfl, getM (by first | omega | (simp; omega))⟩, ?_⟩; (conv => whnf))
    | ((with_reducible apply Or.inl); apply Exists.intro; apply And.intro; (focus (intro hg; (conv => whnf); (repeat' first | (with_reducible exact ⟨rfl, rfl⟩) | ((with_reducible refine Own2.own ?_); (conv => whnf)) | (refine ⟨true, _, rfl, ?_⟩; (conv => whnf)) | (refine ⟨false, .nilp, rfl, ?_⟩; (conv => whnf)) | (refine ⟨_, _, by first | exact c69 _, ?_⟩; (conv => whnf)) | ((with_reducible apply Or.inl); (refine ⟨rfl, rfl, ?_⟩); (conv => whnf)) | ((with_reducible apply Or.inl); (with_reducible apply And.intro); (focus (simp only [rng]; omega)); (conv => whnf)) | (refine ⟨by first | omega | (simp at hg ⊢; omega) | (simp_all; first | done | fail), ?_⟩; (conv => whnf)) | ((with_reducible refine ACall.id ?_); (refine PCall.call (by first | exact c69 _) rfl ?_); (intro x hx; first | subst hx | (obtain ⟨l_, rfl, hl_⟩ := hx.out)); (conv => whnf)) | (intro hlen; (conv => whnf))); done)); (conv => whnf))
    | (apply Exists.intro; apply And.intro; (focus (first | (intro hg; (conv => whnf)) | (conv => whnf)); (repeat' first | (with_reducible exact ⟨rfl, rfl⟩) | ((with_reducible refine Own2.own ?_); (conv => whnf)) | (refine ⟨true, _, rfl, ?_⟩; (conv => whnf)) | (refine ⟨false, .nilp, rfl, ?_⟩; (conv => whnf)) | (refine ⟨_, _, by first | exact c69 _, ?_⟩; (conv => whnf)) | ((with_reducible apply Or.inl); (refine ⟨rfl, rfl, ?_⟩); (conv => whnf)) | ((with_reducible apply Or.inl); (with_reducible apply And.intro); (focus (simp only [rng]; omega)); (conv => whnf)) | (refine ⟨by first | omega | (simp at hg ⊢; omega) | (simp_all; first | done | fail), ?_⟩; (conv => whnf)) | ((with_reducible refine ACall.id ?_); (refine PCall.call (by first | exact c69 _) rfl ?_); (intro x hx; first | subst hx | (obtain ⟨l_, rfl, hl_⟩ := hx.out)); (conv => whnf)) | (intro hlen; (conv => whnf))); done); (conv => whnf))
    | ((with_reducible apply Or.inl); (with_reducible apply And.intro); (focus (simp only [rng]; omega)); (conv => whnf))
    | ((with_reducible apply Or.inr); (with_reducible apply And.intro) <;> (intro hb; (try simp at hb); (try (exfalso; first | omega | (simp_all; first | done | fail))); (try (conv => whnf))))
    | ((with_reducible apply And.intro); (focus (first | omega | (exact True.intro) | (simp; omega) | (exact Nat.le_of_ble_eq_true rfl) | (exact ⟨rfl, Nat.le_of_ble_eq_true rfl⟩) | (exact ⟨Nat.le_of_ble_eq_true rfl, Nat.le_of_ble_eq_true rfl⟩) | (intro hg; first | (simp; first | done | fail) | (simp at hg ⊢; exact hg) | (simp at hg; exact hg) | exact hg))); (conv => whnf))
    | ((with_reducible apply And.intro) <;> (intro hb; (try simp at hb); (try (exfalso; first | omega | (simp_all; first | done | fail))); (try (conv => whnf))))
    | (intro hlen; (conv => whnf))
    | ((with_reducible refine And.intro (Side.out ?_) ?_); rotate_left; (conv => whnf); rotate_right)
  · exact ⟨rfl, by simp; omega, by simp [maxLen]; omega⟩
  · have hp : pos < s.length := by assumption
    have h0 : 0 ≤ st := by assumption
    have hlt := hF.hst h0
    refine .mk (pos + (runeAt s pos).2, S ++ [(st.toNat, pos)], -1 - st) (hF.blank1 hs hp (by assumption) h0) (by have := rune_step hp; show s.length - (pos + (runeAt s pos).2) < s.length - pos; omega) ?_
    have hx : bits .xor .i64 (-1) st = -1 - st := by
      have := i64_not st.toNat (by omega)
      rwa [Int.toNat_of_nonneg h0] at this
    exact ⟨rfl, rfl, rfl, ⟨OLe.refl _, OLe.of (by
      show AObj.row 125 2 (S.map encSpan ++ [.agg [.int .i64 st, .int .i64 (pos : Int)]]) (S.length + 1 + 1) = AObj.row 125 2 ((S ++ [(st.toNat, pos)]).map encSpan) ((S ++ [(st.toNat, pos)]).length + 1)
      simp [encSpan, Int.toNat_of_nonneg h0]), trivial⟩, ⟨AV.le_of_eq (by show AV.d (.int .i64 (bits .xor .i64 (-1) st)) = _; rw [hx]), AV.le_of_eq (by
      show AV.own 0 (S.length + 1 + 1) 2 = AV.own 0 ((S ++ [(st.toNat, pos)]).length + 1) 2
      simp), AV.le_refl _, AV.le_refl _, AV.le_refl _, trivial⟩, rfl⟩
  · have hp : pos < s.length := by assumption
    exact .mk (pos + (runeAt s pos).2, S, st) (hF.blank2 hp (by assumption) (by assumption)) (by have := rune_step hp; show s.length - (pos + (runeAt s pos).2) < s.length - pos; omega) (by refine ⟨rfl, rfl, rfl, ?_, ?_, rfl⟩ <;> repeat' (first | exact trivial | exact OLe.refl _ | exact AV.le_refl _ | apply And.intro))
  · have hp : pos < s.length := by assumption
    exact .mk (pos + (runeAt s pos).2, S, (pos : Int)) (hF.word1 hp (by assumption) (by assumption)) (by have := rune_step hp; show s.length - (pos + (runeAt s pos).2) < s.length - pos; omega) (by refine ⟨rfl, rfl, rfl, ?_, ?_, rfl⟩ <;> repeat' (first | exact trivial | exact OLe.refl _ | exact AV.le_refl _ | apply And.intro))
  · have hp : pos < s.length := by assumption
    exact .mk (pos + (runeAt s pos).2, S, st) (hF.word2 hp (by assumption) (by assumption)) (by have := rune_step hp; show s.length - (pos + (runeAt s pos).2) < s.length - pos; omega) (by refine ⟨rfl, rfl, rfl, ?_, ?_, rfl⟩ <;> repeat' (first | exact trivial | exact OLe.refl _ | exact AV.le_refl _ | apply And.intro))
  · exact ⟨rfl, by simp; omega, by simp [maxLen]; omega⟩
  · exact ⟨by first | (simp; done) | (simp; omega), by simp, by simp; omega, by simp [maxLen]; omega⟩
  · have h0 : 0 ≤ st := by assumption
    have hend := hF.end1 (by assumption) h0
    obtain ⟨S', hS'⟩ : ∃ S', S' = S ++ [(st.toNat, s.length)] := ⟨_, rfl⟩
    have hlS : S'.length ≤ s.length + 1 := by rw [hS']; simp; omega
    have hlS2 : S'.length = S.length + 1 := by rw [hS']; simp
    have hSp : ∀ p ∈ S', p.1 ≤ p.2 ∧ p.2 ≤ s.length := by
      rw [hS']
      intro p hpm
      have := hF.hst h0
      rcases List.mem_append.1 hpm with hm | hm
      · exact hF.hSp p hm
      · rw [List.mem_singleton.1 hm]; exact ⟨by show st.toNat ≤ s.length; omega, Nat.le_refl _⟩
    rw [← hS'] at hend
    refine AW.loopS (X := Nat) [9, 0] [] (fun k => [(49, .d (.int .i64 (k : Int))), (47, .own 0 (S.length + 1 + 1) 2), (48, .d (.int .i64 (S'.length : Int)))]) (fun k => [(3, .row 9 1 ((S'.take k).map (fun p => D.str (piece s p)) ++ List.replicate (S'.length - k) (.str [])) 1), (0, .row 125 2 (S'.map encSpan) (S.length + 1 + 1))]) (fun _ => 4)
      (fun k => k ≤ S'.length) (fun k => S'.length - k) 0 (Nat.zero_le _) (fun _ _ => rfl) ⟨rfl, rfl, rfl, ⟨OLe.of (by
        show AObj.row 9 1 (List.replicate (((S.map encSpan ++ [D.agg [.int .i64 st, .int .i64 (s.length : Int)]]).length : Int) : Int).toNat (D.str [])) 1 = _
        rw [hS']; simp), OLe.of (by
        show AObj.row 125 2 (S.map encSpan ++ [D.agg [.int .i64 st, .int .i64 (s.length : Int)]]) (S.length + 1 + 1) = _
        rw [hS']; simp [encSpan, Int.toNat_of_nonneg h0]), trivial⟩, ⟨AV.le_refl _, AV.le_refl _, AV.le_of_eq (by show AV.d (.int .i64 (((S.map encSpan ++ [D.agg [.int .i64 st, .int .i64 (s.length : Int)]]).length : Int) : Int)) = _; rw [hlS2]; simp), AV.le_refl _, AV.le_refl _, trivial⟩⟩ ?_
    intro k hk
    repeat' first
      | (with_reducible refine AW.seq ?_)
      | ((with_reducible refine AW.region Try.tabOk ?_); (conv => whnf))
      | ((with_reducible refine AW.draw Try.tabOk Try.mixed ?_ ?_); (focus rfl); (conv => whnf))
      | ((with_reducible refine AW.ret ?_); (conv => whnf))
      | ((with_reducible refine AW.block ?_))
      | (with_reducible refine AW.scope ?_)
      | ((with_reducible refine AW.label ?_); (conv => whnf))
      | ((with_reducible refine AW.exit ?_); (conv => whnf))
      | ((with_reducible refine AW.skip ?_); (conv => whnf))
      | ((with_reducible refine AW.cond ?_); (conv => whnf))
      | ((with_reducible refine Own2.own ?_); (conv => whnf))
      | ((with_reducible refine ACall.id ?_); (refine PCall.call (by first | exact c69 _) rfl ?_); (intro x hx; first | subst hx | (obtain ⟨l_, rfl, hl_⟩ := hx.out)); (conv => whnf))
      | ((with_reducible refine ACall.freeze rfl ?_); (conv => whnf))
      | (refine ⟨true, _, rfl, ?_⟩; (conv => whnf))
      | (refine ⟨false, .nilp, rfl, ?_⟩; (conv => whnf))
      | (refine ⟨_, _, by first | exact c69 _, ?_⟩; (conv => whnf))
      | ((with_reducible apply Or.inl); (refine ⟨rfl, rfl, ?_⟩); (conv => whnf))
      | (refine ⟨_, ⟨rfl, rfl⟩, ?_⟩; (conv => whnf))
      | (refine ⟨_, ⟨rfl, getM (by first | omega | (simp; omega))⟩, ?_⟩; (conv => whnf))
      | ((with_reducible apply Or.inl); apply Exists.intro; apply And.intro; (focus (intro hg; (conv => whnf); (repeat' first | (with_reducible exact ⟨rfl, rfl⟩) | ((with_reducible refine Own2.own ?_); (conv => whnf)) | (refine ⟨true, _, rfl, ?_⟩; (conv => whnf)) | (refine ⟨false, .nilp, rfl, ?_⟩; (conv => whnf)) | (refine ⟨_, _, by first | exact c69 _, ?_⟩; (conv => whnf)) | ((with_reducible apply Or.inl); (refine ⟨rfl, rfl, ?_⟩); (conv => whnf)) | ((with_reducible apply Or.inl); (with_reducible apply And.intro); (focus (simp only [rng]; omega)); (conv => whnf)) | (refine ⟨by first | omega | (simp at hg ⊢; omega) | (simp_all; first | done | fail), ?_⟩; (conv => whnf)) | ((with_reducible refine ACall.id ?_); (refine PCall.call (by first | exact c69 _) rfl ?_); (intro x hx; first | subst hx | (obtain ⟨l_, rfl, hl_⟩ := hx.out)); (conv => whnf)) | (intro hlen; (conv => whnf))); done)); (conv => whnf))
      | (apply Exists.intro; apply And.intro; (focus (first | (intro hg; (conv => whnf)) | (conv => whnf)); (repeat' first | (with_reducible exact ⟨rfl, rfl⟩) | ((with_reducible refine Own2.own ?_); (conv => whnf)) | (refine ⟨true, _, rfl, ?_⟩; (conv => whnf)) | (refine ⟨false, .nilp, rfl, ?_⟩; (conv => whnf)) | (refine ⟨_, _, by first | exact c69 _, ?_⟩; (conv => whnf)) | ((with_reducible apply Or.inl); (refine ⟨rfl, rfl, ?_⟩); (conv => whnf)) | ((with_reducible apply Or.inl); (with_reducible apply And.intro); (focus (simp only [rng]; omega)); (conv => whnf)) | (refine ⟨by first | omega | (simp at hg ⊢; omega) | (simp_all; first | done | fail), ?_⟩; (conv => whnf)) | ((with_reducible refine ACall.id ?_); (refine PCall.call (by first | exact c69 _) rfl ?_); (intro x hx; first | subst hx | (obtain ⟨l_, rfl, hl_⟩ := hx.out)); (conv => whnf)) | (intro hlen; (conv => whnf))); done); (conv => whnf))
      | ((with_reducible apply Or.inl); (with_reducible apply And.intro); (focus (simp only [rng]; omega)); (conv => whnf))
      | ((with_reducible apply Or.inr); (with_reducible apply And.intro) <;> (intro hb; (try simp at hb); (try (exfalso; first | omega | (simp_all; first | done | fail))); (try (conv => whnf))))
      | ((with_reducible apply And.intro); (focus (first | omega | (exact True.intro) | (simp; omega) | (exact Nat.le_of_ble_eq_true rfl) | (exact ⟨rfl, Nat.le_of_ble_eq_true rfl⟩) | (exact ⟨Nat.le_of_ble_eq_true rfl, Nat.le_of_ble_eq_true rfl⟩) | (intro hg; first | (simp; first | done | fail) | (simp at hg ⊢; exact hg) | (simp at hg; exact hg) | exact hg))); (conv => whnf))
      | ((with_reducible apply And.intro) <;> (intro hb; (try simp at hb); (try (exfalso; first | omega | (simp_all; first | done | fail))); (try (conv => whnf))))
      | (intro hlen; (conv => whnf))
      | ((with_reducible refine And.intro (Side.out ?_) ?_); rotate_left; (conv => whnf); rotate_right)
    all_goals try (have hk2 : k < S'.length := by omega)
    all_goals try (have hp := hSp (S'.getD k default) (by rw [List.getD_eq_getElem?_getD, List.getElem?_eq_getElem hk2]; simp))
    · exact ⟨by omega, by show ((S'.getD (k : Int).toNat default).1 : Int) ≤ _; exact Int.ofNat_le.2 hp.1, by show ((S'.getD (k : Int).toNat default).2 : Int) ≤ _; exact Int.ofNat_le.2 hp.2⟩
    · refine .mk (k + 1) hk2 (by show S'.length - (k + 1) < S'.length - k; omega) ⟨rfl, rfl, rfl, ⟨OLe.of (by
        show AObj.row 9 1 (((S'.take k).map (fun p => D.str (piece s p)) ++ List.replicate (S'.length - k) (D.str [])).set (k : Int).toNat (D.str (piece s (S'.getD k default)))) 1 = AObj.row 9 1 ((S'.take (k + 1)).map (fun p => D.str (piece s p)) ++ List.replicate (S'.length - (k + 1)) (D.str [])) 1
        rw [Int.toNat_natCast, set_fill hk2 _ _ default]), OLe.refl _, trivial⟩, ⟨AV.le_refl _, AV.le_refl _, AV.le_refl _, AV.le_refl _, AV.le_refl _, trivial⟩, rfl⟩
    · have he : k = S'.length := by omega
      subst he
      show SlRes 1 _ (.d (.list 1 _))
      rw [List.take_length, Nat.sub_self, List.replicate_zero, List.append_nil, hend]
      rw [show (S'.map (piece s)).map D.str = S'.map (fun p => D.str (piece s p)) by simp]
      exact .row
  · exact ⟨by first | (simp; done) | (simp; omega), by simp, by simp; omega, by simp [maxLen]; omega⟩
  · have h0 : st < 0 := by assumption
    have hend := hF.end2 (by assumption) h0
    obtain ⟨S', hS'⟩ : ∃ S', S' = S := ⟨_, rfl⟩
    have hlS : S'.length ≤ s.length + 1 := by rw [hS'];  omega
    have hlS2 : S'.length = S.length := by rw [hS']
    have hSp : ∀ p ∈ S', p.1 ≤ p.2 ∧ p.2 ≤ s.length := by rw [hS']; exact hF.hSp
    rw [← hS'] at hend
    refine AW.loopS (X := Nat) [9, 0] [] (fun k => [(49, .d (.int .i64 (k : Int))), (47, .own 0 (S.length + 1) 2), (48, .d (.int .i64 (S'.length : Int)))]) (fun k => [(2, .row 9 1 ((S'.take k).map (fun p => D.str (piece s p)) ++ List.replicate (S'.length - k) (.str [])) 1), (0, .row 125 2 (S'.map encSpan) (S.length + 1))]) (fun _ => 3)
      (fun k => k ≤ S'.length) (fun k => S'.length - k) 0 (Nat.zero_le _) (fun _ _ => rfl) ⟨rfl, rfl, rfl, ⟨OLe.of (by
        show AObj.row 9 1 (List.replicate (((S.map encSpan).length : Int) : Int).toNat (D.str [])) 1 = _
        rw [hS']; simp), OLe.of (by
        show AObj.row 125 2 (S.map encSpan) (S.length + 1) = _
        rw [hS']), trivial⟩, ⟨AV.le_refl _, AV.le_refl _, AV.le_of_eq (by show AV.d (.int .i64 (((S.map encSpan).length : Int) : Int)) = _; rw [hlS2]; simp), AV.le_refl _, AV.le_refl _, trivial⟩⟩ ?_
    intro k hk
    repeat' first
      | (with_reducible refine AW.seq ?_)
      | ((with_reducible refine AW.region Try.tabOk ?_); (conv => whnf))
      | ((with_reducible refine AW.draw Try.tabOk Try.mixed ?_ ?_); (focus rfl); (conv => whnf))
      | ((with_reducible refine AW.ret ?_); (conv => whnf))
      | ((with_reducible refine AW.block ?_))
      | (with_reducible refine AW.scope ?_)
      | ((with_reducible refine AW.label ?_); (conv => whnf))
      | ((with_reducible refine AW.exit ?_); (conv => whnf))
      | ((with_reducible refine AW.skip ?_); (conv => whnf))
      | ((with_reducible refine AW.cond ?_); (conv => whnf))
      | ((with_reducible refine Own2.own ?_); (conv => whnf))
      | ((with_reducible refine ACall.id ?_); (refine PCall.call (by first | exact c69 _) rfl ?_); (intro x hx; first | subst hx | (obtain ⟨l_, rfl, hl_⟩ := hx.out)); (conv => whnf))
      | ((with_reducible refine ACall.freeze rfl ?_); (conv => whnf))
      | (refine ⟨true, _, rfl, ?_⟩; (conv => whnf))
      | (refine ⟨false, .nilp, rfl, ?_⟩; (conv => whnf))
      | (refine ⟨_, _, by first | exact c69 _, ?_⟩; (conv => whnf))
      | ((with_reducible apply Or.inl); (refine ⟨rfl, rfl, ?_⟩); (conv => whnf))
      | (refine ⟨_, ⟨rfl, rfl⟩, ?_⟩; (conv => whnf))
      | (refine ⟨_, ⟨rfl, getM (by first | omega | (simp; omega))⟩, ?_⟩; (conv => whnf))
      | ((with_reducible apply Or.inl); apply Exists.intro; apply And.intro; (focus (intro hg; (conv => whnf); (repeat' first | (with_reducible exact ⟨rfl, rfl⟩) | ((with_reducible refine Own2.own ?_); (conv => whnf)) | (refine ⟨true, _, rfl, ?_⟩; (conv => whnf)) | (refine ⟨false, .nilp, rfl, ?_⟩; (conv => whnf)) | (refine ⟨_, _, by first | exact c69 _, ?_⟩; (conv => whnf)) | ((with_reducible apply Or.inl); (refine ⟨rfl, rfl, ?_⟩); (conv => whnf)) | ((with_reducible apply Or.inl); (with_reducible apply And.intro); (focus (simp only [rng]; omega)); (conv => whnf)) | (refine ⟨by first | omega | (simp at hg ⊢; omega) | (simp_all; first | done | fail), ?_⟩; (conv => whnf)) | ((with_reducible refine ACall.id ?_); (refine PCall.call (by first | exact c69 _) rfl ?_); (intro x hx; first | subst hx | (obtain ⟨l_, rfl, hl_⟩ := hx.out)); (conv => whnf)) | (intro hlen; (conv => whnf))); done)); (conv => whnf))
      | (apply Exists.intro; apply And.intro; (focus (first | (intro hg; (conv => whnf)) | (conv => whnf)); (repeat' first | (with_reducible exact ⟨rfl, rfl⟩) | ((with_reducible refine Own2.own ?_); (conv => whnf)) | (refine ⟨true, _, rfl, ?_⟩; (conv => whnf)) | (refine ⟨false, .nilp, rfl, ?_⟩; (conv => whnf)) | (refine ⟨_, _, by first | exact c69 _, ?_⟩; (conv => whnf)) | ((with_reducible apply Or.inl); (refine ⟨rfl, rfl, ?_⟩); (conv => whnf)) | ((with_reducible apply Or.inl); (with_reducible apply And.intro); (focus (simp only [rng]; omega)); (conv => whnf)) | (refine ⟨by first | omega | (simp at hg ⊢; omega) | (simp_all; first | done | fail), ?_⟩; (conv => whnf)) | ((with_reducible refine ACall.id ?_); (refine PCall.call (by first | exact c69 _) rfl ?_); (intro x hx; first | subst hx | (obtain ⟨l_, rfl, hl_⟩ := hx.out)); (conv => whnf)) | (intro hlen; (conv => whnf))); done); (conv => whnf))
      | ((with_reducible apply Or.inl); (with_reducible apply And.intro); (focus (simp only [rng]; omega)); (conv => whnf))
      | ((with_reducible apply Or.inr); (with_reducible apply And.intro) <;> (intro hb; (try simp at hb); (try (exfalso; first | omega | (simp_all; first | done | fail))); (try (conv => whnf))))
      | ((with_reducible apply And.intro); (focus (first | omega | (exact True.intro) | (simp; omega) | (exact Nat.le_of_ble_eq_true rfl) | (exact ⟨rfl, Nat.le_of_ble_eq_true rfl⟩) | (exact ⟨Nat.le_of_ble_eq_true rfl, Nat.le_of_ble_eq_true rfl⟩) | (intro hg; first | (simp; first | done | fail) | (simp at hg ⊢; exact hg) | (simp at hg; exact hg) | exact hg))); (conv => whnf))
      | ((with_reducible apply And.intro) <;> (intro hb; (try simp at hb); (try (exfalso; first | omega | (simp_all; first | done | fail))); (try (conv => whnf))))
      | (intro hlen; (conv => whnf))
      | ((with_reducible refine And.intro (Side.out ?_) ?_); rotate_left; (conv => whnf); rotate_right)
    all_goals try (have hk2 : k < S'.length := by omega)
    all_goals try (have hp := hSp (S'.getD k default) (by rw [List.getD_eq_getElem?_getD, List.getElem?_eq_getElem hk2]; simp))
    · exact ⟨by omega, by show ((S'.getD (k : Int).toNat default).1 : Int) ≤ _; exact Int.ofNat_le.2 hp.1, by show ((S'.getD (k : Int).toNat default).2 : Int) ≤ _; exact Int.ofNat_le.2 hp.2⟩
    · refine .mk (k + 1) hk2 (by show S'.length - (k + 1) < S'.length - k; omega) ⟨rfl, rfl, rfl, ⟨OLe.of (by
        show AObj.row 9 1 (((S'.take k).map (fun p => D.str (piece s p)) ++ List.replicate (S'.length - k) (D.str [])).set (k : Int).toNat (D.str (piece s (S'.getD k default)))) 1 = AObj.row 9 1 ((S'.take (k + 1)).map (fun p => D.str (piece s p)) ++ List.replicate (S'.length - (k + 1)) (D.str [])) 1
        rw [Int.toNat_natCast, set_fill hk2 _ _ default]), OLe.refl _, trivial⟩, ⟨AV.le_refl _, AV.le_refl _, AV.le_refl _, AV.le_refl _, AV.le_refl _, trivial⟩, rfl⟩
    · have he : k = S'.length := by omega
      subst he
      show SlRes 1 _ (.d (.list 1 _))
      rw [List.take_length, Nat.sub_self, List.replicate_zero, List.append_nil, hend]
      rw [show (S'.map (piece s)).map D.str = S'.map (fun p => D.str (piece s p)) by simp]
      exact .row
end Go.Proofs
end
