/- A logic of abstract states over the model: its rules are sound. General: no condition on the program. -/
import Derived.Test.YtajnbdjipmckpaaPmG1
import Derived.Laws.AppendOwn
import Derived.Maps.RangeRun
import Derived.Lib.OthersKept
import Derived.Lib.ConvBytes
import Derived.Laws.IdiomStrings
import Derived.RangeFuncLeaves
import Derived.RangeFuncCalls
import Derived.Scope
import Derived.OrdersIn
set_option linter.all false
section
/- Appending: to nil, or to a whole row of one's own. -/
namespace Go.Pm

/-- What is appended; and two versions that must be the same. -/
def srcOf (h : Heap) (sz : Nat) : AV → Option (List D × Nat × Nat)
  | .d (.list sz' l) => cond (Nat.beq sz sz') (some (l, 0, 0)) none
  | .d .nils => some ([], 0, 0)
  | .own b ver sz' => match h.get b with
    | .row _ sz2 l ver' => cond (Nat.beq sz sz' && Nat.beq sz sz2) (some (l, ver, ver')) none
    | _ => none
  | .d (.str s) => cond (Nat.beq sz 1) (some (s.map fun b => .int .u8 b.toNat, 0, 0)) none
  | _ => none

def isSrcT : TD → Bool
  | .slice _ | .str => true
  | _ => false

def aappend (T : Tab) (h : Heap) (t tx : TypeId) (x y : AV) (K : AV → Heap → Prop) : Prop :=
  match T t, T tx with
  | some yt, some yx => match yt.td with
    | .slice e => match T e with
      | some ye => match srcOf h ye.size y with
        | some (xs, v1, v2) => v1 = v2 ∧ cond (isSrcT yx.td && Nat.blt 0 ye.size) (match x with
          | .d .nils => cond xs.isEmpty (K (.d .nils) h) ((xs.length * ye.bytes ≤ 140737488355328 ∧ xs.length ≤ maxLen) ∧ K (.own h.nx 1 ye.size) (h.push (.row e ye.size xs 1)))
          | .own b ver sz => match h.get b with
            | .row e' sz' l ver' => cond (Nat.beq sz sz' && Nat.beq sz ye.size && Nat.beq e e')
                ((ver = ver' ∧ (l.length + xs.length) * ye.bytes ≤ 140737488355328 ∧ l.length + xs.length ≤ maxLen) ∧ K (.own b (ver + 1) sz) (h.set b (.row e' sz' (l ++ xs) (ver + 1)))) False
            | .nest e' e2 sz2 ll ver' hole => match hole, xs with
              | none, [.nils] => cond (Nat.beq sz 1 && Nat.beq sz ye.size && Nat.beq e e')
                  ((ver = ver' ∧ (ll.length + 1) * ye.bytes ≤ 140737488355328 ∧ ll.length + 1 ≤ maxLen) ∧ K (.own b (ver + 1) sz) (h.set b (.nest e' e2 sz2 (ll ++ [[]]) (ver + 1) none))) False
              | _, _ => False
            | _ => False
          | _ => False) False
        | none => False
      | none => False
    | _ => False
  | _, _ => False

section
variable {P : Program} {T : Tab} (hT : TabOk P T) {μ : Mu} {w : World}

theorem Laid.ofList {ok : Nat → Prop} {sz : Nat} (h0 : 0 < sz) {l : List D} (vs : Nat → Nat → Value) (hsz : ∀ (i : Nat) (x : D), l[i]? = some x → (D.cells x).length = sz)
    (hone : ∀ (i : Nat) (x : D) (j : Nat) (u : D), l[i]? = some x → (D.cells x)[j]? = some u → D.one u = true)
    (h : ∀ (i : Nat) (x : D) (j : Nat) (u : D), l[i]? = some x → (D.cells x)[j]? = some u → DRel ok w u (vs i j)) : Laid ok w sz l ((List.range (l.length * sz)).map fun k => vs (k / sz) (k % sz)) := by
  refine ⟨by simp, hsz, fun i x j u hx hu => ⟨hone i x j u hx hu, vs i j, ?_, h i x j u hx hu⟩⟩
  have hi := (List.getElem?_eq_some_iff.1 hx).1
  have hj := (List.getElem?_eq_some_iff.1 hu).1
  rw [hsz i x hx] at hj
  have : (i + 1) * sz ≤ l.length * sz := Nat.mul_le_mul_right _ hi
  rw [Nat.add_mul, Nat.one_mul] at this
  rw [List.getElem?_map, List.getElem?_range (by omega)]
  simp only [Option.map_some]
  have e1 : (i * sz + j) / sz = i := by rw [Nat.mul_comm, Nat.mul_add_div h0, Nat.div_eq_of_lt hj, Nat.add_zero]
  have e2 : (i * sz + j) % sz = j := by rw [Nat.mul_comm, Nat.mul_add_mod, Nat.mod_eq_of_lt hj]
  rw [e1, e2]

/-- What is appended. -/
theorem srcOf_sound {h : Heap} (hh : HRel h μ w) {sz : Nat} (h0 : 0 < sz) {y : AV} {xs : List D} {v1 v2 : Nat} (hs : srcOf h sz y = some (xs, v1, v2)) (hvv : v1 = v2) {v : Value} (hv : ARel h.nx μ w y v) {tx : TypeId}
    (hk : (∃ e', P.underlying tx = some (.slice e')) ∨ P.underlying tx = some .string) : ∃ news, Src P sz tx v xs.length news w ∧ Laid (okOf μ) w sz xs news := by
  have sl : ∀ (a : Addr) (n c : Nat) (news : List Value) (l : List D), l.length = n → Laid (okOf μ) w sz l news → (∀ j u, news[j]? = some u → w.cell? (a.add j) = some u) → Src P sz tx (.slice (some a) n c) l.length news w := by
    intro a n c news l hl hlaid hcell
    subst hl
    exact ⟨hk, fun _ => rfl, run_firstCells_some w sz _ a _ c news hlaid.len hcell, run_firstCells_some w.drew sz _ a _ c news hlaid.len (by simpa using hcell), hlaid.len, hlaid.one⟩
  unfold srcOf at hs
  split at hs
  · rename_i sz' l
    cases hc : Nat.beq sz sz' with
    | false => rw [hc] at hs; cases hs
    | true =>
      rw [hc] at hs
      have := Nat.eq_of_beq_eq_true hc; subst this
      cases hs
      cases hv; rename_i hv
      cases hv with
      | empty _ b c hcap =>
        refine ⟨[], ?_, .nil⟩
        cases b with
        | none => exact ⟨hk, fun _ => rfl, run_firstCells_none w sz 0 0 c, run_firstCells_none w.drew sz 0 0 c, by simp, fun _ h => by cases h⟩
        | some a => exact sl a 0 c [] [] rfl .nil (fun j u h => by simp at h)
      | list _ _ a c vs hl hcm hok hsz hone hcell hr =>
        have hlaid := Laid.ofList h0 vs hsz hone hr
        refine ⟨_, sl a _ c _ xs rfl hlaid (fun k u hu => ?_), hlaid⟩
        have hk2 := (List.getElem?_eq_some_iff.1 hu).1
        simp only [List.length_map, List.length_range] at hk2
        have hi : k / sz < xs.length := (Nat.div_lt_iff_lt_mul h0).2 hk2
        have hj : k % sz < (D.cells xs[k / sz]).length := by rw [hsz _ _ (List.getElem?_eq_getElem hi)]; exact Nat.mod_lt _ h0
        have := hcell _ _ _ _ (List.getElem?_eq_getElem hi) (List.getElem?_eq_getElem hj)
        have e : k / sz * sz + k % sz = k := by rw [Nat.mul_comm]; exact Nat.div_add_mod k sz
        rw [e] at this
        rw [List.getElem?_map, List.getElem?_range hk2] at hu
        simp only [Option.map_some] at hu
        rw [this, hu]
  · cases hs
    cases hv; rename_i hv; cases hv
    exact ⟨[], ⟨hk, fun _ => rfl, run_firstCells_none w sz 0 0 0, run_firstCells_none w.drew sz 0 0 0, by simp, fun _ h => by cases h⟩, .nil⟩
  · rename_i b ver sz'
    split at hs
    · rename_i e sz2 l ver' hget
      cases hc : (Nat.beq sz sz' && Nat.beq sz sz2) with
      | false => rw [hc] at hs; cases hs
      | true =>
        rw [hc] at hs
        cases hs
        simp only [Bool.and_eq_true] at hc
        have c1 := hvv
        have c2 := Nat.eq_of_beq_eq_true hc.1
        have c3 := Nat.eq_of_beq_eq_true hc.2
        subst c1 c2 c3
        have ho := hh.obj b
        rw [hget] at ho
        obtain ⟨bd, C, hb, hver, hv0, hat, hsz, hlen, hr⟩ := ho
        cases hv with
        | own _ _ _ m a c hbn hn hcm hvv h00 ha =>
        obtain ⟨ha1, ha2, ha3⟩ := ha bd hb hver
        have hlaid := hr.laid
        rcases Nat.eq_zero_or_pos c with hc0 | hc0
        · have hx0 : xs = [] := List.length_eq_zero_iff.1 (by omega)
          subst hx0
          have hm0 : m = 0 := by omega
          subst hm0
          refine ⟨[], ?_, .nil⟩
          cases a with
          | none => exact ⟨hk, fun _ => rfl, run_firstCells_none w sz 0 0 c, run_firstCells_none w.drew sz 0 0 c, by simp, fun _ h => by cases h⟩
          | some a => exact sl a 0 c [] [] rfl .nil (fun j u h => by simp at h)
        obtain ⟨fz, hg, hfz⟩ := hat fun _ => Nat.lt_of_lt_of_le (Nat.mul_pos hc0 hv0.2) ha2
        obtain rfl := ha1 hc0
        refine ⟨_, sl _ m c _ xs (by omega) hlaid (fun j u hu => ?_), hlaid⟩
        have hj := (List.getElem?_eq_some_iff.1 hu).1
        rw [hlaid.len] at hj
        rw [cell_at hg]
        rw [List.getElem?_take, if_pos hj] at hu
        simpa using hu
    · cases hs
  · rename_i s
    cases hc : Nat.beq sz 1 with
    | false => rw [hc] at hs; cases hs
    | true =>
      rw [hc] at hs
      cases hs
      have := Nat.eq_of_beq_eq_true hc; subst this
      cases hv; rename_i hv; cases hv
      have hbc : byteCells ⟨s.toArray⟩ = s.map fun b => Value.int .u8 b.toNat := by simp [byteCells]
      have hsz : (⟨s.toArray⟩ : ByteArray).size = s.length := by simp [ByteArray.size]
      refine ⟨byteCells ⟨s.toArray⟩, ⟨hk, fun _ => ?_, ?_, ?_, ?_, ?_⟩, ?_⟩
      · simp [Builtin.lenOf, hsz]
      · have := firstCells_string (P := P) ⟨s.toArray⟩ w
        rw [hsz] at this; simpa using this
      · have := firstCells_string (P := P) ⟨s.toArray⟩ w.drew
        rw [hsz] at this; simpa using this
      · rw [hbc]; simp
      · intro u hu
        rw [hbc] at hu
        obtain ⟨_, _, rfl⟩ := List.mem_map.1 hu
        rfl
      · rw [hbc]
        refine ⟨by simp, fun i x hx => ?_, fun i x j u hx hu => ?_⟩
        · rw [List.getElem?_map, Option.map_eq_some_iff] at hx
          obtain ⟨q, _, rfl⟩ := hx; rfl
        · rw [List.getElem?_map, Option.map_eq_some_iff] at hx
          obtain ⟨q, hq, rfl⟩ := hx
          cases j with
          | zero =>
            simp [D.cells] at hu; subst hu
            exact ⟨rfl, .int .u8 q.toNat, by simp [hq], .int _ _⟩
          | succ j => simp [D.cells] at hu
  · cases hs

/-- There is room. -/
theorem append_room {t tx ty e : TypeId} {i : TypeInfo} (ht : P.underlying t = some (.slice e)) (hi : P.info? e = some i) {g : Nat} {te : TypeId} {cur : Array Value} {fz : Nat × Nat} (hg : w.heap[g]? = some (.cells cur te fz)) (hfz : ∀ i, i < cur.size → ¬ (fz.1 ≤ i ∧ i < fz.2)) (sLen sCap : Nat) {x : Value} {n : Nat}
    {news : List Value} (hs : Src P i.size tx x n news w) (hroom : sLen + n ≤ sCap) (hfit : sLen * i.size + news.length ≤ cur.size) :
    (Builtin.append_ #[t, tx] ty #[.slice (some ⟨g, 0, none⟩) sLen sCap, x]).run P w = .ok (.slice (some ⟨g, 0, none⟩) (sLen + n) sCap) (w.setRow g (spl cur.toList (sLen * i.size) news).toArray) := by
  have hst := storeCells_fz (P := P) g (sLen * i.size) te fz news 0 cur w hg hfz (by simpa using hfit) hs.one
  simp only [Nat.add_zero] at hst
  rcases hs.kind with ⟨e', hk⟩ | hk <;> simp [Builtin.append_, run_underlying ht, run_underlying hk, sizeOf, typeInfo, hi, hs.len, hroom, hs.cells, Addr.add_lit, hst, spl]

/-- Nothing is appended. -/
theorem append_none {t tx ty e : TypeId} {i : TypeInfo} (ht : P.underlying t = some (.slice e)) (hi : P.info? e = some i) (base : Option Addr) (sLen sCap : Nat) {x : Value}
    (hs : Src P i.size tx x 0 [] w) (hroom : sLen ≤ sCap) :
    (Builtin.append_ #[t, tx] ty #[.slice base sLen sCap, x]).run P w = .ok (.slice base sLen sCap) w := by
  cases base <;> rcases hs.kind with ⟨e', hk⟩ | hk <;> simp [Builtin.append_, run_underlying ht, run_underlying hk, sizeOf, typeInfo, hi, hs.len, hroom, hs.cells, storeCells]

theorem Laid.splice {sz : Nat} {l m : List D} {C : Array Value} {E : List Value} (h : RowCells μ w sz l C) (k : Laid (okOf μ) w sz m E) :
    RowCells μ w sz (l ++ m) (spl C.toList (l.length * sz) E).toArray := by
  have := (h.laid.append k).row (C.toList.drop (l.length * sz + E.length))
  simpa [spl] using this

include hT in
theorem aappend_sound {h : Heap} (hh : HRel h μ w) {t tx ty : TypeId} {x y : AV} {K : AV → Heap → Prop} (hk : aappend T h t tx x y K) {u v : Value} (hu : ARel h.nx μ w x u) (hv : ARel h.nx μ w y v) :
    ∃ z h' μ' w' r, K z h' ∧ HRel h' μ' w' ∧ Ext h.nx μ w μ' w' ∧ h.nx ≤ h'.nx ∧ (Builtin.append_ #[t, tx] ty #[u, v]).run P w = .ok r w' ∧ ARel h'.nx μ' w' z r := by
  unfold aappend at hk
  split at hk
  · rename_i yt yx hyt hyx
    obtain ⟨d, hd, htd, _⟩ := hT.und t yt hyt
    obtain ⟨dx, hdx, htdx, _⟩ := hT.und tx yx hyx
    split at hk
    · rename_i e he
      have := tdOf_slice (htd.trans he); subst this
      split at hk
      · rename_i ye hye
        obtain ⟨i, z0, hi, hi1, hi2, _, hi3, _, hi4⟩ := hT.info e ye hye
        split at hk
        · rename_i xs v1 v2 hsrc
          obtain ⟨hv12, hk⟩ := hk
          cases hc : (isSrcT yx.td && Nat.blt 0 ye.size) with
          | false => rw [hc] at hk; cases hk
          | true =>
            rw [hc, cond_true] at hk
            simp only [Bool.and_eq_true] at hc
            have h0 : 0 < ye.size := Nat.le_of_ble_eq_true hc.2
            have hkind : (∃ e', P.underlying tx = some (.slice e')) ∨ P.underlying tx = some .string := by
              rw [hdx]
              have := hc.1
              rw [← htdx] at this
              cases dx <;> simp [tdOf, isSrcT] at this <;> simp
            obtain ⟨news, hsr, hlaid⟩ := srcOf_sound hh h0 hsrc hv12 hv hkind
            rw [← hi1] at hsr hlaid
            have hn0 : xs = [] → news = [] := by
              intro hx; subst hx
              have := hlaid.len
              simpa using this
            split at hk
            · cases hu; rename_i hu; cases hu
              cases hxe : xs.isEmpty with
              | true =>
                rw [hxe, cond_true] at hk
                have hx := List.isEmpty_iff.1 hxe
                have hn := hn0 hx
                subst hx hn
                exact ⟨_, h, μ, w, _, hk, hh, .refl _ _ _ hh.hi, Nat.le_refl _, append_none hd hi none 0 0 hsr (Nat.le_refl _), .d _ _ .nils⟩
              | false =>
                rw [hxe, cond_false] at hk
                obtain ⟨⟨hk1, hk2⟩, hk⟩ := hk
                have hxl : 0 < xs.length := by
                  rw [List.length_pos_iff]; intro hx; rw [List.isEmpty_iff.2 hx] at hxe; cases hxe
                have hgr := run_append_grow_src (P := P) w t tx ty e i z0 hd hi hi3 none 0 0 [] (by simp [Builtin.firstCells]) v xs.length news hsr (by omega) (by simp only [maxLen] at hk2; omega)
                  (by rw [Nat.zero_add, hi2]; exact growslice_fits hxl hk1)
                simp only [Nat.zero_add, List.nil_append] at hgr
                have hge := grownCap_ge w xs.length 0 e
                have hle := grownCap_le_maxLen w xs.length 0 e hk2
                obtain ⟨g1, g2⟩ := push_row hh (e := e) (sz := ye.size) (l := xs) (C := news) (hi1 ▸ hlaid) h0 (Builtin.zeroCells z0.cells (grownCap w xs.length 0 e - xs.length)).toList w.drew rfl rfl rfl rfl
                refine ⟨_, _, _, _, _, hk, g1, g2, Nat.le_succ _, ?_, own_new _ _ hge hle ?_⟩
                · rw [hgr]
                  congr 3
                  apply Array.ext'
                  simp
                · simp only [List.length_append, hlaid.len, Array.length_toList, size_zeroCells, hi4, hi1, ← Nat.add_mul]
                  exact Nat.mul_le_mul_right _ (by omega)
            · rename_i b ver sz
              split at hk
              · rename_i e' sz' l ver' hget
                cases hcc : (Nat.beq sz sz' && Nat.beq sz ye.size && Nat.beq e e') with
                | false => rw [hcc] at hk; cases hk
                | true =>
                  rw [hcc, cond_true] at hk
                  simp only [Bool.and_eq_true] at hcc
                  obtain ⟨⟨c2, c3⟩, c4⟩ := hcc
                  obtain ⟨⟨c1, hkk⟩, hk⟩ := hk
                  have hk := And.intro hkk hk
                  have c2 := Nat.eq_of_beq_eq_true c2
                  have c3 := Nat.eq_of_beq_eq_true c3
                  have c4 := Nat.eq_of_beq_eq_true c4
                  subst c1 c2 c3 c4
                  obtain ⟨⟨hk1, hk2⟩, hk⟩ := hk
                  have ho := hh.obj b
                  rw [hget] at ho
                  obtain ⟨bd, C, hb, hver, hv0, hat, hsz, hlen, hr⟩ := ho
                  cases hu with
                  | own _ _ _ m a c hbn hn hcm hvv h00 ha =>
                  obtain ⟨ha1, ha2, ha3⟩ := ha bd hb hver
                  have hml : m = l.length := by omega
                  subst hml
                  rw [hi1] at hsr hlaid
                  have hres : ∀ (blk N c' : Nat) (a' : Option Addr) (w' : World), l.length + xs.length ≤ c' → c' ≤ maxLen → (0 < c' → a' = some ⟨blk, 0, none⟩) → c' * ye.size ≤ N →
                      ARel (h.set b (.row e ye.size (l ++ xs) (ver + 1))).nx (muSet μ b (some ⟨blk, ver + 1, N, (l ++ xs).length, noSub⟩)) w' (.own b (ver + 1) ye.size) (.slice a' (l.length + xs.length) c') := by
                    intro blk N c' a' w' q1 q2 q3 q4
                    refine .own _ _ _ _ _ _ hbn q1 q2 (fun bd' hb' => ?_) (Nat.succ_pos _) (fun bd' hb' _ => ?_)
                    · rw [muSet_at, if_pos rfl] at hb'; cases hb'; exact Nat.le_refl _
                    · rw [muSet_at, if_pos rfl] at hb'; cases hb'
                      exact ⟨q3, q4, by simp⟩
                  by_cases hx : xs = []
                  · have hn := hn0 hx
                    subst hx hn
                    have hap := append_none (ty := ty) hd hi a l.length c (hi1 ▸ hsr) hn
                    obtain ⟨g1, g2⟩ := hh.move (w' := w) b bd ⟨bd.blk, ver + 1, bd.size, (l ++ []).length, noSub⟩ hbn hb (.row e ye.size (l ++ []) (ver + 1)) (by simp only; omega) (by omega) rfl rfl rfl (Nat.le_refl _) (fun q hq => .inl (by rcases hq with ⟨h1, h2⟩ | h1; exact .inl ⟨fun _ => h1 (Nat.succ_pos _), h2⟩; exact h1.elim)) (fun _ _ _ => rfl)
                      (fun hext => ⟨_, C, rfl, rfl, ⟨Nat.succ_pos _, hv0.2⟩, fun hre => hat (fun _ => hre (Nat.succ_pos _)), hsz, rfl, by simpa using hr.fits, fun i x hx => hr.len i x (by simpa using hx), fun i x j q hx hq => by
                        obtain ⟨r1, r2, r3, r4⟩ := hr.cell i x j q (by simpa using hx) hq
                        exact ⟨r1, r2, r3, r4.keep hext.keeps⟩⟩)
                    exact ⟨_, _, _, _, _, hk, g1, g2, Nat.le_refl _, hap, by simpa using hres bd.blk bd.size c a w (by simpa using hn) hcm ha1 ha2⟩
                  · have hxl : 0 < xs.length := List.length_pos_iff.2 hx
                    by_cases hroom : l.length + xs.length ≤ c
                    · have ha1 := ha1 (by omega)
                      subst ha1
                      have hreal : bd.real := fun _ => Nat.lt_of_lt_of_le (Nat.mul_pos (by omega) hv0.2) ha2
                      obtain ⟨fz, hg, hfz⟩ := hat hreal
                      have hfit : l.length * ye.size + news.length ≤ C.size := by
                        rw [hlaid.len, ← Nat.add_mul, hsz]
                        exact Nat.le_trans (Nat.mul_le_mul_right _ hroom) ha2
                      have hap := append_room (ty := ty) hd hi hg hfz l.length c (hi1.symm ▸ hsr) hroom (by rw [hi1]; exact hfit)
                      rw [hi1] at hap
                      obtain ⟨g1, g2⟩ := hh.move (w' := w.setRow bd.blk (spl C.toList (l.length * ye.size) news).toArray) b bd ⟨bd.blk, ver + 1, bd.size, (l ++ xs).length, noSub⟩ hbn hb (.row e ye.size (l ++ xs) (ver + 1)) (by simp only; omega) (by omega)
                        rfl rfl rfl (by simp) (fun q hq => .inl (by rcases hq with ⟨h1, h2⟩ | h1; exact .inl ⟨hreal, h2⟩; exact h1.elim)) (fun i _ hi => setRow_other w _ _ _ (hi hreal))
                        (fun hext => ⟨_, _, rfl, rfl, ⟨Nat.succ_pos _, hv0.2⟩, fun _ => ⟨fz, setRow_heap w _ _ _ _ _ hg, by rw [List.size_toArray, spl_length _ _ _ (by simpa using hfit)]; simpa using hfz⟩, by
                          simp only [List.size_toArray]
                          rw [spl_length _ _ _ (by simpa using hfit)]; simpa using hsz, rfl, by
                          have hrr := Laid.splice hr hlaid
                          refine ⟨hrr.fits, hrr.len, fun i x j q hx hq => ?_⟩
                          obtain ⟨r1, r2, r3, r4⟩ := hrr.cell i x j q hx hq
                          exact ⟨r1, r2, r3, r4.keep hext.keeps⟩⟩)
                      exact ⟨_, _, _, _, _, hk, g1, g2, Nat.le_refl _, hap, hres bd.blk bd.size c _ _ hroom hcm (fun _ => rfl) ha2⟩
                    · have hold : (Builtin.firstCells i.size l.length (.slice a l.length c)).run P w.drew = .ok (C.toList.take (l.length * ye.size)).toArray w.drew := by
                        rcases Nat.eq_zero_or_pos c with hcz | hcz
                        · have hl0 : l.length = 0 := by omega
                          rw [hl0, Nat.zero_mul, List.take_zero]
                          cases a with
                          | none => exact run_firstCells_none w.drew i.size 0 0 c
                          | some a => exact run_firstCells_some w.drew i.size 0 a 0 c [] (by simp) (fun j q h => by simp at h)
                        obtain ⟨fz, hg, hfz⟩ := hat fun _ => Nat.lt_of_lt_of_le (Nat.mul_pos hcz hv0.2) ha2
                        obtain rfl := ha1 hcz
                        refine run_firstCells_some w.drew i.size l.length _ l.length c _ (by rw [hr.laid.len, hi1]) (fun j q hq => ?_)
                        have hj := (List.getElem?_eq_some_iff.1 hq).1
                        rw [hr.laid.len] at hj
                        have := cell_at (w := w) (off := 0) hg j
                        rw [List.getElem?_take, if_pos hj] at hq
                        simp only [World.cell?_drew, this]
                        simpa using hq
                      have hgr := run_append_grow_src (P := P) w t tx ty e i z0 hd hi hi3 a l.length c _ hold v xs.length news (hi1.symm ▸ hsr) (by omega) (by simp only [maxLen] at hk2; omega)
                        (by rw [hi2]; exact growslice_fits (by omega) hk1)
                      have hge := grownCap_ge w (l.length + xs.length) c e
                      have hle := grownCap_le_maxLen w (l.length + xs.length) c e hk2
                      have hlaid2 := hr.laid.append hlaid
                      obtain ⟨g1, g2⟩ := hh.move (w' := w.drew.alloc (.cells ((C.toList.take (l.length * ye.size) ++ news).toArray ++ Builtin.zeroCells z0.cells (grownCap w (l.length + xs.length) c e - (l.length + xs.length))) e)) b bd
                        ⟨w.heap.size, ver + 1, grownCap w (l.length + xs.length) c e * ye.size, (l ++ xs).length, noSub⟩ hbn hb (.row e ye.size (l ++ xs) (ver + 1)) (by simp only; omega) (by omega)
                        rfl rfl rfl (by simp) (fun q hq => .inr (by rcases hq with ⟨h1, rfl⟩ | h1; exact ⟨Nat.le_refl _, by simp⟩; exact h1.elim)) (fun i hi _ => by apply heap_alloc_old; exact hi)
                        (fun hext => ⟨_, _, rfl, rfl, ⟨Nat.succ_pos _, hv0.2⟩, fun _ => ⟨(0, 0), heap_alloc_new w.drew _, fun _ _ h => by simp at h⟩, by
                          simp only [Array.size_append, List.size_toArray, hlaid2.len, size_zeroCells, hi4, List.length_append, ← Nat.add_mul]
                          congr 1; omega, rfl, by
                          have hrr := (hlaid2.row (Builtin.zeroCells z0.cells (grownCap w (l.length + xs.length) c e - (l.length + xs.length))).toList)
                          have ea : ((C.toList.take (l.length * ye.size) ++ news) ++ (Builtin.zeroCells z0.cells (grownCap w (l.length + xs.length) c e - (l.length + xs.length))).toList).toArray =
                            ((C.toList.take (l.length * ye.size) ++ news).toArray ++ Builtin.zeroCells z0.cells (grownCap w (l.length + xs.length) c e - (l.length + xs.length))) := by apply Array.ext'; simp
                          rw [ea] at hrr
                          refine ⟨hrr.fits, hrr.len, fun i x j q hx hq => ?_⟩
                          obtain ⟨r1, r2, r3, r4⟩ := hrr.cell i x j q hx hq
                          exact ⟨r1, r2, r3, r4.keep hext.keeps⟩⟩)
                      exact ⟨_, _, _, _, _, hk, g1, g2, Nat.le_refl _, hgr, hres _ _ _ _ _ hge hle (fun _ => rfl) (Nat.le_refl _)⟩
              · rename_i e' e2 sz2 ll ver' hole hget
                split at hk
                · cases hcc : (Nat.beq sz 1 && Nat.beq sz ye.size && Nat.beq e e') with
                  | false => rw [hcc] at hk; cases hk
                  | true =>
                    rw [hcc, cond_true] at hk
                    simp only [Bool.and_eq_true] at hcc
                    obtain ⟨⟨c2, c3⟩, c4⟩ := hcc
                    obtain ⟨⟨c1, hk1, hk2⟩, hk⟩ := hk
                    have c2 := Nat.eq_of_beq_eq_true c2
                    have c3 := Nat.eq_of_beq_eq_true c3
                    have c4 := Nat.eq_of_beq_eq_true c4
                    subst c1 c4
                    have hsz1 : i.size = 1 := by omega
                    have ho := hh.obj b
                    rw [hget] at ho
                    obtain ⟨bd, C, S, hb, hver, hv0, hat, hsz, hlen, hle0, hs1, hs2, hs3, hr⟩ := ho
                    cases hu with
                    | own _ _ _ m a c hbn hn hcm hvv h00 ha =>
                    obtain ⟨ha1, ha2, ha3⟩ := ha bd hb hver
                    have hml : m = ll.length := by omega
                    subst hml
                    -- what is new: one nil slice
                    have hnew : news = [.slice none 0 0] := by
                      have hl1 := hlaid.len
                      rw [hsz1] at hl1
                      obtain ⟨_, v1, g2, g3⟩ := hlaid.cell 0 .nils 0 .nils rfl rfl
                      cases g3
                      match news, hl1, g2 with
                      | [q], _, g2 => simp at g2; rw [g2]
                    subst hnew
                    have hnil : ∀ (μ' : Mu) (w' : World) (own : Nat → Prop), SubOk μ' w' e2 sz2 [] (.slice none 0 0) own := fun _ _ _ => ⟨none, 0, rfl, Nat.le_refl _, by simp, fun h => absurd h (Nat.lt_irrefl 0)⟩
                    have hS : ∀ k, S ll.length k → False → True := fun _ _ h => h.elim
                    have hres : ∀ (blk N c' : Nat) (sb : Nat → Prop) (a' : Option Addr) (w' : World), ll.length + 1 ≤ c' → c' ≤ maxLen → (0 < c' → a' = some ⟨blk, 0, none⟩) → c' ≤ N →
                        ARel (h.set b (.nest e e2 sz2 (ll ++ [[]]) (ver + 1) none)).nx (muSet μ b (some ⟨blk, ver + 1, N, ll.length + 1, sb⟩)) w' (.own b (ver + 1) sz) (.slice a' (ll.length + 1) c') := by
                      intro blk N c' sb a' w' q1 q2 q3 q4
                      refine .own _ _ _ _ _ _ hbn q1 q2 (fun bd' hb' => ?_) (Nat.succ_pos _) (fun bd' hb' _ => ?_)
                      · rw [muSet_at, if_pos rfl] at hb'; cases hb'; exact Nat.le_refl _
                      · rw [muSet_at, if_pos rfl] at hb'; cases hb'
                        exact ⟨q3, by rw [c2, Nat.mul_one]; exact q4, rfl⟩
                    -- the slices of the cells stay
                    have hcells : ∀ (bd' : Bind) (w' : World) (E0 : Array Value) (hext : Ext h.nx μ w (muSet μ b (some bd')) w'), (∀ k, k < w.heap.size → bd.subs k → w'.heap[k]? = w.heap[k]?) → (∀ j, j < ll.length → E0[j]? = C[j]?) → E0[ll.length]? = some (.slice none 0 0) →
                        ∀ (j : Nat) (l : List D), (ll ++ [[]])[j]? = some l → ∃ v, E0[j]? = some v ∧ NestAt h.nx (muSet μ b (some bd')) w' e2 sz2 none j l v (fun k => S j k ∧ j < ll.length) := by
                      intro bd' w' E0 hext hkeep hD1 hD2 j l hj
                      by_cases hjl : j < ll.length
                      · rw [List.getElem?_append_left hjl] at hj
                        obtain ⟨v, g1, g2⟩ := hr j l hj
                        refine ⟨v, by rw [hD1 j hjl]; exact g1, ?_⟩
                        obtain ⟨base, cq, k1, k2, k3, k4⟩ := g2
                        refine ⟨base, cq, k1, k2, k3, fun h0 => ?_⟩
                        obtain ⟨q, Ci, q1, q2, q3, q4, q5⟩ := k4 h0
                        exact ⟨q, Ci, q1, ⟨q2, hjl⟩, q3.other (hkeep q (hh.lts b bd q hb (.inr (hs1 j q q2))) (hs1 j q q2)), q4, q5.ext hext⟩
                      · have hj2 : j < (ll ++ [[]]).length := (List.getElem?_eq_some_iff.1 hj).1
                        have hje : j = ll.length := by simp at hj2; omega
                        subst hje
                        simp at hj
                        subst hj
                        exact ⟨_, hD2, hnil _ _ _⟩
                    by_cases hroom : ll.length + 1 ≤ c
                    · have ha1 := ha1 (by omega)
                      subst ha1
                      have hcN : c ≤ C.size := by rw [c2, Nat.mul_one] at ha2; omega
                      have hreal : bd.real := fun _ => by omega
                      obtain ⟨fz, hg, hfz⟩ := hat hreal
                      have hfit : ll.length * i.size + 1 ≤ C.size := by rw [hsz1]; omega
                      have hap := append_room (ty := ty) hd hi hg hfz ll.length c hsr hroom (by simpa using hfit)
                      rw [hsz1, Nat.mul_one] at hap
                      have hspl : ll.length + [Value.slice none 0 0].length ≤ C.toList.length := by simp; omega
                      obtain ⟨g1, g2⟩ := hh.move (w' := w.setRow bd.blk (spl C.toList ll.length [.slice none 0 0]).toArray) b bd ⟨bd.blk, ver + 1, bd.size, ll.length + 1, bd.subs⟩ hbn hb (.nest e e2 sz2 (ll ++ [[]]) (ver + 1) none) (by simp only; omega) (by omega)
                        rfl rfl rfl (by simp) (fun q hq => .inl (by rcases hq with ⟨h1, h2⟩ | h1; exact .inl ⟨hreal, h2⟩; exact .inr h1)) (fun i _ hi => setRow_other w _ _ _ (hi hreal))
                        (fun hext => ⟨_, _, _, rfl, rfl, ⟨Nat.succ_pos _, hv0.2⟩, fun _ => ⟨fz, setRow_heap w _ _ _ _ _ hg, by rw [List.size_toArray, spl_length _ _ _ hspl]; simpa using hfz⟩, by
                          simp only [List.size_toArray]
                          rw [spl_length _ _ _ hspl]; simpa using hsz, by simp, by
                          simp only [List.size_toArray]
                          rw [spl_length _ _ _ hspl]; simp; omega, fun j k hk => hs1 j k hk.1, fun j j' k hk hk' => hs2 j j' k hk.1 hk'.1, fun _ => hs3 hreal,
                          hcells _ _ _ hext (fun k _ hk => setRow_other w _ _ _ (fun e => hs3 hreal (by rw [← e]; exact hk))) (fun j hj => by
                            simp only [List.getElem?_toArray]
                            rw [spl_get _ _ _ hspl, if_neg (by omega)]; simp) (by
                            simp only [List.getElem?_toArray]
                            rw [spl_get _ _ _ hspl, if_pos (by simp)]; simp)⟩)
                      exact ⟨_, _, _, _, _, hk, g1, g2, Nat.le_refl _, hap, hres bd.blk bd.size c _ _ _ hroom hcm (fun _ => rfl) (by have := ha2; rw [c2, Nat.mul_one] at this; exact this)⟩
                    · have hold : (Builtin.firstCells i.size ll.length (.slice a ll.length c)).run P w.drew = .ok (C.toList.take ll.length).toArray w.drew := by
                        rcases Nat.eq_zero_or_pos c with hcz | hcz
                        · have hl0 : ll.length = 0 := by omega
                          rw [hl0, List.take_zero]
                          cases a with
                          | none => exact run_firstCells_none w.drew i.size 0 0 c
                          | some a => exact run_firstCells_some w.drew i.size 0 a 0 c [] (by simp) (fun j q h => by simp at h)
                        obtain ⟨fz, hg, hfz⟩ := hat fun _ => by have := ha2; rw [c2, Nat.mul_one] at this; omega
                        obtain rfl := ha1 hcz
                        refine run_firstCells_some w.drew i.size ll.length _ ll.length c _ (by simp [hsz1]; omega) (fun j q hq => ?_)
                        have := cell_at (w := w) (off := 0) hg j
                        rw [List.getElem?_take] at hq
                        split at hq
                        · simp only [World.cell?_drew, this]
                          simpa using hq
                        · cases hq
                      have hgr := run_append_grow_src (P := P) w t tx ty e i z0 hd hi hi3 a ll.length c _ hold v 1 [.slice none 0 0] hsr (by omega) (by simp only [maxLen] at hk2; omega)
                        (by rw [hi2]; exact growslice_fits (by omega) hk1)
                      have hge := grownCap_ge w (ll.length + 1) c e
                      have hle := grownCap_le_maxLen w (ll.length + 1) c e hk2
                      have htl : (C.toList.take ll.length).length = ll.length := by simp; omega
                      obtain ⟨g1, g2⟩ := hh.move (w' := w.drew.alloc (.cells ((C.toList.take ll.length ++ [Value.slice none 0 0]).toArray ++ Builtin.zeroCells z0.cells (grownCap w (ll.length + 1) c e - (ll.length + 1))) e)) b bd
                        ⟨w.heap.size, ver + 1, grownCap w (ll.length + 1) c e, ll.length + 1, bd.subs⟩ hbn hb (.nest e e2 sz2 (ll ++ [[]]) (ver + 1) none) (by simp only; omega) (by omega)
                        rfl rfl rfl (by simp) (fun q hq => by rcases hq with ⟨h1, rfl⟩ | h1; exact .inr ⟨Nat.le_refl _, by simp⟩; exact .inl (.inr h1)) (fun i hi _ => by apply heap_alloc_old; exact hi)
                        (fun hext => ⟨_, _, _, rfl, rfl, ⟨Nat.succ_pos _, hv0.2⟩, fun _ => ⟨(0, 0), heap_alloc_new w.drew _, fun _ _ h => by simp at h⟩, by
                          simp only [Array.size_append, List.size_toArray, size_zeroCells, hi4, List.length_append, htl, List.length_singleton]
                          rw [show ye.size = 1 by omega]; omega, by simp, by
                          simp only [Array.size_append, List.size_toArray, List.length_append, htl, List.length_singleton]; omega, fun j k hk => hs1 j k hk.1, fun j j' k hk hk' => hs2 j j' k hk.1 hk'.1, fun _ hsb => by
                          have := hh.lts b bd _ hb (.inr hsb); simp at this,
                          hcells _ _ _ hext (fun k hk _ => by apply heap_alloc_old; exact hk) (fun j hj => by
                            rw [Array.getElem?_append_left (by simp only [List.size_toArray, List.length_append, htl, List.length_singleton]; omega), List.getElem?_toArray, List.getElem?_append_left (by omega), List.getElem?_take, if_pos hj]; simp) (by
                            rw [Array.getElem?_append_left (by simp only [List.size_toArray, List.length_append, htl, List.length_singleton]; omega), List.getElem?_toArray, List.getElem?_append_right (by omega), htl, Nat.sub_self]; rfl)⟩)
                      refine ⟨_, _, _, _, _, hk, g1, g2, Nat.le_refl _, hgr, hres _ _ _ _ _ _ hge hle (fun _ => rfl) (Nat.le_refl _)⟩
                · cases hk
              · cases hk
            · cases hk
        · cases hk
      · cases hk
    · cases hk
  · cases hk
end
end Go.Pm
end
section
/- Maps: made, asked, written. -/
namespace Go.Pm

/-! ### Keys -/
def dEq1 : D → D → Bool
  | .str a, .str b => a == b
  | .int _ a, .int _ b => a == b
  | .bool a, .bool b => a == b
  | _, _ => false
def dEqs : List D → List D → Bool
  | [], [] => true
  | a :: r, b :: q => dEq1 a b && dEqs r q
  | _, _ => false
def dEq : D → D → Bool
  | .agg a, .agg b => dEqs a b
  | a, b => dEq1 a b

def flatT (T : Tab) : Nat → List (TypeId × Nat) → Option (List Bk)
  | _, [] => some []
  | i, (t, off) :: r => match T t with
    | some y => cond (Nat.beq i off) (match y.td, flatT T (i + 1) r with
      | .str, some q => some (.str :: q)
      | .int k, some q => some (.int k :: q)
      | .bool, some q => some (.bool :: q)
      | _, _ => none) none
    | none => none
def shT (T : Tab) (t : TypeId) : Option KSh :=
  match T t with
  | some y => match y.td with
    | .str => some (.one .str)
    | .int k => some (.one (.int k))
    | .bool => some (.one .bool)
    | .struct fs => cond y.plain (match flatT T 0 fs with
      | some bs => some (.agg bs)
      | none => none) none
    | _ => none
  | none => none

def bkEq : Bk → Bk → Bool
  | .str, .str => true
  | .int k, .int k' => kEq k k'
  | .bool, .bool => true
  | _, _ => false
def bksEq : List Bk → List Bk → Bool
  | [], [] => true
  | a :: r, b :: q => bkEq a b && bksEq r q
  | _, _ => false
def shEq : KSh → KSh → Bool
  | .one a, .one b => bkEq a b
  | .agg a, .agg b => bksEq a b
  | _, _ => false
theorem bkEq_eq {a b : Bk} (h : bkEq a b = true) : a = b := by
  cases a <;> cases b <;> simp only [bkEq] at h <;> first | rfl | (rw [kEq_eq h]) | cases h
theorem bksEq_eq : ∀ {a b : List Bk}, bksEq a b = true → a = b
  | [], [], _ => rfl
  | [], _ :: _, h => by cases h
  | _ :: _, [], h => by cases h
  | a :: r, b :: q, h => by
    simp only [bksEq, Bool.and_eq_true] at h
    rw [bkEq_eq h.1, bksEq_eq h.2]
theorem shEq_eq {a b : KSh} (h : shEq a b = true) : a = b := by
  cases a <;> cases b <;> simp only [shEq] at h <;> first | (rw [bkEq_eq h]) | (rw [bksEq_eq h]) | cases h

/-! ### Entries -/
def findE (k : D) : List (Nat × D × D) → Option D
  | [] => none
  | q :: r => cond (dEq k q.2.1) (some q.2.2) (findE k r)
def updE (k v : D) (clock : Nat) : List (Nat × D × D) → List (Nat × D × D)
  | [] => [(clock, k, v)]
  | q :: r => cond (dEq k q.2.1) ((q.1, k, v) :: r) (q :: updE k v clock r)
def hasE (k : D) : List (Nat × D × D) → Bool
  | [] => false
  | q :: r => cond (dEq k q.2.1) true (hasE k r)

def mapT (T : Tab) (t : TypeId) : Option (KSh × Ty) :=
  match T t with
  | some y => match y.td with
    | .map k e => match shT T k, T e with
      | some sh, some ye => some (sh, ye)
      | _, _ => none
    | _ => none
  | none => none

/-- What a lookup yields: b: is the key there? v: its value. -/
def lookK (ok : Bool) (zero : D) (b : Bool) (v : D) (K : AV → Prop) : Prop :=
  (v = .bool true ∧ zero = .bool false ∧ K (cond ok (.tup [.d (.bool b), .d (.bool b)]) (.d (.bool b)))) ∨
    ((b = true → K (cond ok (.tup [.d v, .tt]) (.d v))) ∧ (b = false → K (cond ok (.tup [.d zero, .ff]) (.d zero))))
def alookup (T : Tab) (h : Heap) (t : TypeId) (x i : AV) (ok : Bool) (K : AV → Prop) : Prop :=
  match mapT T t, toD i with
  | some (sh, ye), some k => cond (sh.has k) (match x with
    | .d .nilmap => K (cond ok (.tup [.d ye.zero, .ff]) (.d ye.zero))
    | .d (.mapd sh' es _) => cond (shEq sh sh') (∃ (b : Bool) (v : D), findE k es = cond b (some v) none ∧ lookK ok ye.zero b v K) False
    | .map b => match h.get b with
      | .map sh' es _ => cond (shEq sh sh') (∃ (b : Bool) (v : D), findE k es = cond b (some v) none ∧ lookK ok ye.zero b v K) False
      | _ => False
    | _ => False) False
  | _, _ => False

def amapUpdate (T : Tab) (h : Heap) (t : TypeId) (x i v : AV) (K : AV → Heap → Prop) : Prop :=
  match mapT T t, toD i, toD v with
  | some (sh, _), some k, some d => cond (sh.has k) (match x with
    | .map b => match h.get b with
      | .map sh' es clock => cond (shEq sh sh') (K .junk (h.set b (.map sh' (updE k d clock es) (cond (hasE k es) clock (clock + 1))))) False
      | _ => False
    | _ => False) False
  | _, _, _ => False

def amakeMap (T : Tab) (h : Heap) (t : TypeId) (res : Option AV) (K : AV → Heap → Prop) : Prop :=
  match mapT T t with
  | some (sh, _) => (match res with
    | none => True
    | some (.d (.int _ _)) => True
    | _ => False) ∧ K (.map h.nx) (h.push (.map sh [] 0))
  | none => False

section
variable {P : Program} {T : Tab} (hT : TabOk P T) {μ : Mu} {w : World}

theorem Bk.has_eq {ok : Nat → Prop} {b : Bk} {x y : D} (hx : b.has x = true) (hy : b.has y = true) (h : dEq1 x y = true) {u v : Value} (hu : DRel ok w x u) (hv : DRel ok w y v) : u = v := by
  cases b <;> cases x <;> simp only [Bk.has] at hx <;> (try cases hx) <;> cases y <;> simp only [Bk.has] at hy <;> (try cases hy) <;> simp only [dEq1, beq_iff_eq] at h <;> subst h <;> cases hu <;> cases hv
  · rfl
  · rw [← kEq_eq hx, ← kEq_eq hy]
  · rfl

theorem Bk.hasAll_eq {ok : Nat → Prop} : ∀ (bs : List Bk) (xs ys : List D) (us vs : List Value), Bk.hasAll bs xs = true → Bk.hasAll bs ys = true → dEqs xs ys = true → us.length = xs.length → vs.length = ys.length →
    (∀ (i : Nat) (c : D) (v : Value), xs[i]? = some c → us[i]? = some v → DRel ok w c v) → (∀ (i : Nat) (c : D) (v : Value), ys[i]? = some c → vs[i]? = some v → DRel ok w c v) → us = vs
  | bs, [], ys, us, vs, hx, hy, h, hl, hm, _, _ => by
    cases ys with
    | nil => simp at hl hm; rw [hl, hm]
    | cons _ _ => cases h
  | bs, x :: xs, ys, us, vs, hx, hy, h, hl, hm, hu, hv => by
    cases ys with
    | nil => cases h
    | cons y ys =>
      cases bs with
      | nil => cases hx
      | cons b bs =>
        cases us with
        | nil => simp at hl
        | cons u us =>
          cases vs with
          | nil => simp at hm
          | cons v vs =>
            simp only [Bk.hasAll, dEqs, Bool.and_eq_true] at hx hy h
            rw [Bk.has_eq hx.1 hy.1 h.1 (hu 0 _ _ rfl rfl) (hv 0 _ _ rfl rfl)]
            rw [Bk.hasAll_eq bs xs ys us vs hx.2 hy.2 h.2 (by simpa using hl) (by simpa using hm) (fun i c v h1 h2 => hu (i + 1) c v h1 h2) (fun i c v h1 h2 => hv (i + 1) c v h1 h2)]

/-- Keys that are equal stand for one value. -/
theorem KSh.has_eq {ok : Nat → Prop} {sh : KSh} {x y : D} (hx : sh.has x = true) (hy : sh.has y = true) (h : dEq x y = true) {u v : Value} (hu : DRel ok w x u) (hv : DRel ok w y v) : u = v := by
  cases sh with
  | one b =>
    have h1 : ∀ d : D, b.has d = true → ∀ cs, d ≠ .agg cs := by
      intro d hd cs e; subst e; cases b <;> cases hd
    simp only [KSh.has] at hx hy
    refine Bk.has_eq hx hy ?_ hu hv
    cases x <;> cases y <;> first | exact h | exact absurd rfl (h1 _ hx _) | exact absurd rfl (h1 _ hy _)
  | agg bs =>
    cases x <;> simp only [KSh.has] at hx <;> (try cases hx)
    cases y <;> simp only [KSh.has] at hy <;> (try cases hy)
    cases hu with
    | agg _ us hl ho hr =>
    cases hv with
    | agg _ vs hl2 ho2 hr2 =>
    rw [Bk.hasAll_eq bs _ _ us vs hx hy h hl hl2 hr hr2]

theorem sameBits_self {ok : Nat → Prop} {sh : KSh} {x : D} (hx : sh.has x = true) {u : Value} (hu : DRel ok w x u) : Instr.sameBits 10000 u u = true := by
  have one : ∀ (n : Nat) {b : Bk} {x : D} {u : Value}, b.has x = true → DRel ok w x u → Instr.sameBits n u u = true := by
    intro n b x u hx hu
    cases b <;> cases x <;> simp only [Bk.has] at hx <;> (try cases hx) <;> cases hu <;> cases n <;> simp [Instr.sameBits, beq_toListBytes]
  cases sh with
  | one b => exact one _ hx hu
  | agg bs =>
    cases x <;> simp only [KSh.has] at hx <;> (try cases hx)
    rename_i cs
    cases hu with
    | agg _ us hl ho hr =>
    simp only [Instr.sameBits, beq_self_eq_true, Bool.true_and, List.all_eq_true]
    intro p hp
    obtain ⟨a, b⟩ := p
    have hz : ∀ (l : List Value) (a b : Value), (a, b) ∈ l.zip l → a = b ∧ a ∈ l := by
      intro l
      induction l with
      | nil => intro a b h; simp at h
      | cons c l ih =>
        intro a b h
        simp only [List.zip_cons_cons, List.mem_cons, Prod.mk.injEq] at h
        rcases h with ⟨rfl, rfl⟩ | h
        · exact ⟨rfl, by simp⟩
        · exact ⟨(ih a b h).1, by simp [(ih a b h).2]⟩
    obtain ⟨rfl, hm⟩ := hz _ _ _ hp
    obtain ⟨i, hi, rfl⟩ := List.mem_iff_getElem.1 hm
    have hsh : ∀ (bs : List Bk) (cs : List D), Bk.hasAll bs cs = true → ∀ (i : Nat) (c : D), cs[i]? = some c → ∃ b : Bk, b.has c = true := by
      intro bs cs
      induction cs generalizing bs with
      | nil => intro _ i c h; simp at h
      | cons d cs ih =>
        intro h i c hc
        cases bs with
        | nil => cases h
        | cons b bs =>
          simp only [Bk.hasAll, Bool.and_eq_true] at h
          cases i with
          | zero => simp at hc; subst hc; exact ⟨b, h.1⟩
          | succ i => simp at hc; exact ih bs h.2 i c hc
    have hi' : i < cs.length := by have : i < us.length := hi; omega
    obtain ⟨b, hb⟩ := hsh bs cs hx i _ (List.getElem?_eq_getElem hi')
    exact one _ hb (hr i _ _ (List.getElem?_eq_getElem hi') (by simp))

theorem flat_eqD (d : Nat) : ∀ (fs : List (TypeId × Nat)) (i : Nat) (bs : List Bk) (xs ys : List D), flatT T i fs = some bs → Bk.hasAll bs (xs.drop i) = true → Bk.hasAll bs (ys.drop i) = true →
    eqFlds T (eqD T (d + 1)) xs ys fs = some (dEqs (xs.drop i) (ys.drop i))
  | [], i, bs, xs, ys, h, hx, hy => by
    simp only [flatT] at h; cases h
    cases h1 : xs.drop i with
    | cons _ _ => rw [h1] at hx; cases hx
    | nil =>
      cases h2 : ys.drop i with
      | cons _ _ => rw [h2] at hy; cases hy
      | nil => simp [eqFlds, dEqs]
  | (t, off) :: r, i, bs, xs, ys, h, hx, hy => by
    simp only [flatT] at h
    split at h
    · rename_i y hy0
      cases hb : Nat.beq i off with
      | false => rw [hb] at h; cases h
      | true =>
        rw [hb, cond_true] at h
        have := Nat.eq_of_beq_eq_true hb; subst this
        have key : ∀ (b : Bk) (q : List Bk), flatT T (i + 1) r = some q → bs = b :: q → isAggT y.td = false → (∀ a c : D, b.has a = true → b.has c = true → eqD T (d + 1) t a c = some (dEq1 a c)) →
            eqFlds T (eqD T (d + 1)) xs ys ((t, i) :: r) = some (dEqs (xs.drop i) (ys.drop i)) := by
          intro b q hq hbs hag heq
          subst hbs
          cases h1 : xs.drop i with
          | nil => rw [h1] at hx; cases hx
          | cons x xr =>
            cases h2 : ys.drop i with
            | nil => rw [h2] at hy; cases hy
            | cons z zr =>
              rw [h1] at hx; rw [h2] at hy
              simp only [Bk.hasAll, Bool.and_eq_true] at hx hy
              have gx : xs[i]? = some x := by
                have := congrArg List.head? h1
                simpa [List.head?_drop] using this
              have gy : ys[i]? = some z := by
                have := congrArg List.head? h2
                simpa [List.head?_drop] using this
              have dx : xs.drop (i + 1) = xr := by rw [← List.drop_drop, h1]; rfl
              have dy : ys.drop (i + 1) = zr := by rw [← List.drop_drop, h2]; rfl
              have ih := flat_eqD d r (i + 1) q xs ys hq (by rw [dx]; exact hx.2) (by rw [dy]; exact hy.2)
              have px : partD T t xs i = some x := by simp only [partD, hy0, hag, cond_false]; exact gx
              have py : partD T t ys i = some z := by simp only [partD, hy0, hag, cond_false]; exact gy
              simp only [eqFlds, px, py, heq x z hx.1 hy.1, ih, dx, dy, dEqs]
        split at h
        · rename_i q htd hq
          cases h
          refine key .str q hq rfl (by rw [htd]; rfl) (fun a c ha hc => ?_)
          cases a <;> simp only [Bk.has] at ha <;> (try cases ha)
          cases c <;> simp only [Bk.has] at hc <;> (try cases hc)
          simp only [eqD, hy0, htd, dEq1]
        · rename_i k q htd hq
          cases h
          refine key (.int k) q hq rfl (by rw [htd]; rfl) (fun a c ha hc => ?_)
          cases a <;> simp only [Bk.has] at ha <;> (try cases ha)
          cases c <;> simp only [Bk.has] at hc <;> (try cases hc)
          have e1 := kEq_eq ha
          have e2 := kEq_eq hc
          subst e1; subst e2
          simp only [eqD, hy0, htd, dEq1, ha, cond_true]
        · rename_i q htd hq
          cases h
          refine key .bool q hq rfl (by rw [htd]; rfl) (fun a c ha hc => ?_)
          cases a <;> simp only [Bk.has] at ha <;> (try cases ha)
          cases c <;> simp only [Bk.has] at hc <;> (try cases hc)
          simp only [eqD, hy0, htd, dEq1]
        · cases h
    · cases h

theorem shT_eqD {t : TypeId} {sh : KSh} (h : shT T t = some sh) {x y : D} (hx : sh.has x = true) (hy : sh.has y = true) : eqD T 8 t x y = some (dEq x y) := by
  unfold shT at h
  split at h
  · rename_i ty hty
    split at h
    · rename_i htd
      cases h
      cases x <;> simp only [KSh.has, Bk.has] at hx <;> (try cases hx)
      cases y <;> simp only [KSh.has, Bk.has] at hy <;> (try cases hy)
      simp only [eqD, hty, htd, dEq, dEq1]
    · rename_i k htd
      cases h
      cases x <;> simp only [KSh.has, Bk.has] at hx <;> (try cases hx)
      cases y <;> simp only [KSh.has, Bk.has] at hy <;> (try cases hy)
      have e1 := kEq_eq hx
      have e2 := kEq_eq hy
      subst e1; subst e2
      simp only [eqD, hty, htd, dEq, dEq1, hx, cond_true]
    · rename_i htd
      cases h
      cases x <;> simp only [KSh.has, Bk.has] at hx <;> (try cases hx)
      cases y <;> simp only [KSh.has, Bk.has] at hy <;> (try cases hy)
      simp only [eqD, hty, htd, dEq, dEq1]
    · rename_i fs htd
      cases hp : ty.plain with
      | false => rw [hp] at h; cases h
      | true =>
        rw [hp, cond_true] at h
        split at h
        · rename_i bs hbs
          cases h
          cases x <;> simp only [KSh.has] at hx <;> (try cases hx)
          cases y <;> simp only [KSh.has] at hy <;> (try cases hy)
          have := flat_eqD 6 fs 0 bs _ _ hbs hx hy
          rw [eqD]
          simp only [hty, htd, hp, cond_true]
          simpa [dEq] using this
        · cases h
    · cases h
  · cases h

theorem dEq1_of_has {ok : Nat → Prop} {b : Bk} {x y : D} (hx : b.has x = true) (hy : b.has y = true) {u v : Value} (hu : DRel ok w x u) (hv : DRel ok w y v) (d : TypeDesc) (hd : d = (match b with | .str => .string | .int k => .int k | .bool => .bool)) :
    Instr.sameNow d u v = some (dEq1 x y) := by
  subst hd
  cases b <;> cases x <;> simp only [Bk.has] at hx <;> (try cases hx) <;> cases y <;> simp only [Bk.has] at hy <;> (try cases hy) <;> cases hu <;> cases hv
  · simp only [Instr.sameNow, dEq1, beq_toListBytes, ByteArray.toList_mk]
  · have e1 := kEq_eq hx
    have e2 := kEq_eq hy
    subst e1; subst e2
    simp [Instr.sameNow, dEq1]
  · simp [Instr.sameNow, dEq1]

include hT in
/-- The kind of a map's keys. -/
theorem shT_kind {t : TypeId} {sh : KSh} (h : shT T t = some sh) : (∃ b, sh = .one b ∧ P.underlying t = some (match b with | .str => .string | .int k => .int k | .bool => .bool)) ∨
    (∃ bs F y, sh = .agg bs ∧ P.underlying t = some (.struct F) ∧ T t = some y ∧ flatT T 0 (F.toList.map fun f => (f.type, f.offset)) = some bs) := by
  unfold shT at h
  split at h
  · rename_i ty hty
    obtain ⟨d, hd, htd, _⟩ := hT.und t ty hty
    split at h
    · rename_i e; cases h; exact .inl ⟨.str, rfl, by rw [hd, tdOf_str (htd.trans e)]⟩
    · rename_i k e; cases h; exact .inl ⟨.int k, rfl, by rw [hd, tdOf_int (htd.trans e)]⟩
    · rename_i e; cases h; exact .inl ⟨.bool, rfl, by rw [hd, tdOf_bool (htd.trans e)]⟩
    · rename_i fs e
      cases hp : ty.plain with
      | false => rw [hp] at h; cases h
      | true =>
        rw [hp, cond_true] at h
        split at h
        · rename_i bs hbs
          cases h
          obtain ⟨F, rfl, hF⟩ := tdOf_struct (htd.trans e)
          subst hF
          exact .inr ⟨bs, F, ty, rfl, hd, hty, hbs⟩
        · cases h
    · cases h
  · cases h


include hT in
theorem flat_fields (m : Nat) (em : Bool) : ∀ (L : List Field) (i : Nat) (bs : List Bk), flatT T i (L.map fun f => (f.type, f.offset)) = some bs → ∀ (vs : Array Value), i + L.length ≤ vs.size →
    ∀ (f : Field), f ∈ L → ∃ v, (part f.type vs f.offset).run P w = .ok v w ∧ (Instr.checkKey em (m + 1) f.type v).run P w = .ok () w
  | [], _, _, _, _, _, f, hf => by simp at hf
  | g :: L, i, bs, h, vs, hl, f, hf => by
    simp only [List.map_cons, flatT] at h
    split at h
    · rename_i y hy
      cases hb : Nat.beq i g.offset with
      | false => rw [hb] at h; cases h
      | true =>
        rw [hb, cond_true] at h
        have e := Nat.eq_of_beq_eq_true hb
        obtain ⟨d, hd, htd⟩ := run_und hT hy w
        have rest : ∀ q, flatT T (i + 1) (L.map fun f => (f.type, f.offset)) = some q → f ∈ L → ∃ v, (part f.type vs f.offset).run P w = .ok v w ∧ (Instr.checkKey em (m + 1) f.type v).run P w = .ok () w :=
          fun q hq hf => flat_fields m em L (i + 1) q hq vs (by simp at hl; omega) f hf
        have this : isAggT y.td = false → (∀ v, (Instr.checkKey em (m + 1) g.type v).run P w = .ok () w) → ∃ v, (part g.type vs g.offset).run P w = .ok v w ∧ (Instr.checkKey em (m + 1) g.type v).run P w = .ok () w := by
          intro ha hc
          have hi : g.offset < vs.size := by simp at hl; omega
          refine ⟨vs[g.offset], ?_, hc _⟩
          unfold part
          rw [Sem.run_bind, run_isAgg hT hy w, ha]
          simp only [Result.andThen_ok, Bool.false_eq_true, if_false, Array.getElem?_eq_getElem hi]
          rfl
        rcases List.mem_cons.1 hf with rfl | hf
        · split at h
          · rename_i q htd' hq
            have := tdOf_str (htd.trans htd'); subst this
            exact this (by rw [htd']; rfl) (fun v => by rw [Instr.checkKey]; simp [hd])
          · rename_i k q htd' hq
            have := tdOf_int (htd.trans htd'); subst this
            exact this (by rw [htd']; rfl) (fun v => by rw [Instr.checkKey]; simp [hd])
          · rename_i q htd' hq
            have := tdOf_bool (htd.trans htd'); subst this
            exact this (by rw [htd']; rfl) (fun v => by rw [Instr.checkKey]; simp [hd])
          · cases h
        · split at h
          · exact rest _ (by assumption) hf
          · exact rest _ (by assumption) hf
          · exact rest _ (by assumption) hf
          · cases h
    · cases h

theorem flatT_len : ∀ (fs : List (TypeId × Nat)) (i : Nat) (bs : List Bk), flatT T i fs = some bs → bs.length = fs.length
  | [], i, bs, h => by simp only [flatT] at h; cases h; rfl
  | (t, off) :: r, i, bs, h => by
    simp only [flatT] at h
    split at h
    · rename_i y hy
      cases hb : Nat.beq i off with
      | false => rw [hb] at h; cases h
      | true =>
        rw [hb, cond_true] at h
        split at h
        · rename_i q _ hq; cases h; simp [flatT_len r _ _ hq]
        · rename_i q _ hq; cases h; simp [flatT_len r _ _ hq]
        · rename_i q _ hq; cases h; simp [flatT_len r _ _ hq]
        · cases h
    · cases h
theorem hasAll_len : ∀ (bs : List Bk) (ds : List D), Bk.hasAll bs ds = true → bs.length = ds.length
  | [], [], _ => rfl
  | [], _ :: _, h => by cases h
  | _ :: _, [], h => by cases h
  | b :: bs, d :: ds, h => by
    simp only [Bk.hasAll, Bool.and_eq_true] at h
    simp [hasAll_len bs ds h.2]

include hT in
/-- A key of its shape passes. -/
theorem run_checkKey_sh {ok : Nat → Prop} {t : TypeId} {sh : KSh} (h : shT T t = some sh) {x : D} (hx : sh.has x = true) {u : Value} (hu : DRel ok w x u) (em : Bool) : (Instr.checkKey em 10000 t u).run P w = .ok () w := by
  rcases shT_kind hT h with ⟨b, rfl, hd⟩ | ⟨bs, F, y, rfl, hd, hy, hfl⟩
  · rw [show (10000 : Nat) = 9999 + 1 from rfl, Instr.checkKey]
    cases b <;> simp [run_underlying hd]
  · cases x <;> simp only [KSh.has] at hx <;> (try cases hx)
    rename_i cs
    cases hu with
    | agg _ us hl ho hr =>
    rw [show (10000 : Nat) = 9998 + 1 + 1 from rfl, Instr.checkKey]
    simp only [Sem.run_bind, run_underlying hd, Result.andThen_ok]
    rw [← Array.forIn_toList]
    have e1 := flatT_len _ _ _ hfl
    have e2 := hasAll_len _ _ hx
    simp only [List.length_map] at e1
    have each := flat_fields (w := w) hT 9998 em F.toList 0 bs hfl us.toArray (by simp only [List.size_toArray]; omega)
    clear hfl hd e1
    generalize F.toList = L at each
    induction L with
    | nil => simp
    | cons f L ih =>
      obtain ⟨v, p1, p2⟩ := each f (by simp)
      by_cases hn : f.name ≠ "_"
      · simp only [List.forIn_cons, Sem.run_bind, hn, ne_eq, not_false_eq_true, if_true, Result.andThen_ok, p1, p2, Sem.run_pure]
        exact ih (fun y hy => each y (by simp [hy]))
      · simp only [List.forIn_cons, Sem.run_bind, hn, if_false, Result.andThen_ok, Sem.run_pure]
        exact ih (fun y hy => each y (by simp [hy]))

/-- The entries that the model holds. -/
def Entries (ok : Nat → Prop) (w : World) (sh : KSh) (es : List (Nat × D × D)) (E : List MapEntry) : Prop :=
  E.length = es.length ∧ (∀ (i : Nat) (q : Nat × D × D), es[i]? = some q → sh.has q.2.1 = true) ∧
  ∀ (i : Nat) (q : Nat × D × D) (e : MapEntry), es[i]? = some q → E[i]? = some e → e.born = q.1 ∧ DRel ok w q.2.1 e.key ∧ DRel ok w q.2.2 e.val

theorem Entries.tail {ok : Nat → Prop} {sh : KSh} {q : Nat × D × D} {es : List (Nat × D × D)} {e : MapEntry} {E : List MapEntry} (h : Entries ok w sh (q :: es) (e :: E)) : Entries ok w sh es E :=
  ⟨by simpa using h.1, fun i q h1 => h.2.1 (i + 1) q h1, fun i q e h1 h2 => h.2.2 (i + 1) q e h1 h2⟩

/-- Where the key is: its place, if any. -/
def placeE (k : D) : List (Nat × D × D) → Nat → Option (Nat × D)
  | [], _ => none
  | q :: r, i => cond (dEq k q.2.1) (some (i, q.2.2)) (placeE k r (i + 1))
theorem placeE_find (k : D) : ∀ (es : List (Nat × D × D)) (i : Nat), (placeE k es i).map (·.2) = findE k es
  | [], _ => rfl
  | q :: r, i => by
    simp only [placeE, findE]
    cases dEq k q.2.1 with
    | true => rfl
    | false => exact placeE_find k r (i + 1)
theorem placeE_has (k : D) : ∀ (es : List (Nat × D × D)) (i : Nat), (placeE k es i).isSome = hasE k es
  | [], _ => rfl
  | q :: r, i => by
    simp only [placeE, hasE]
    cases dEq k q.2.1 with
    | true => rfl
    | false => exact placeE_has k r (i + 1)

/-- What the model finds is what is there. -/
def Found (ok : Nat → Prop) (w : World) : Option (Nat × D) → Option (Nat × Value) → Prop
  | none, none => True
  | some (i, d), some (j, v) => i = j ∧ DRel ok w d v
  | _, _ => False

include hT in
theorem run_findKey_sh {ok : Nat → Prop} {t : TypeId} {sh : KSh} (h : shT T t = some sh) {x : D} (hx : sh.has x = true) {u : Value} (hu : DRel ok w x u) {es : List (Nat × D × D)} {E : List MapEntry} (hE : Entries ok w sh es E) :
    ∃ r, (Instr.findKey t u E).run P w = .ok r w ∧ Found ok w (placeE x es 0) r := by
  rcases shT_kind hT h with ⟨b, rfl, hd⟩ | ⟨bs, F, y, rfl, hd, hy, hfl⟩
  · obtain ⟨dd, hd, hdd⟩ : ∃ dd, P.underlying t = some dd ∧ ∀ (x y : D) (u v : Value), b.has x = true → b.has y = true → DRel ok w x u → DRel ok w y v → Instr.sameNow dd u v = some (dEq1 x y) :=
      ⟨_, hd, fun x y u v h1 h2 h3 h4 => dEq1_of_has h1 h2 h3 h4 _ (by cases b <;> rfl)⟩
    have key : ∀ (es : List (Nat × D × D)) (E : List MapEntry) (i : Nat), Entries ok w (.one b) es E →
        ∃ r, Instr.findNow dd u E i = some r ∧ Found ok w (placeE x es i) r := by
      intro es
      induction es with
      | nil =>
        intro E i hE
        cases E with
        | nil => exact ⟨none, rfl, trivial⟩
        | cons _ _ => have := hE.1; simp at this
      | cons q es ih =>
        intro E i hE
        cases E with
        | nil => have := hE.1; simp at this
        | cons e E =>
          have hk := hE.2.2 0 q e rfl rfl
          have hq : b.has q.2.1 = true := hE.2.1 0 q rfl
          have hs := hdd x q.2.1 u e.key hx hq hu hk.2.1
          have hde : dEq x q.2.1 = dEq1 x q.2.1 := by
            have hx' : b.has x = true := hx
            cases b <;> cases x <;> simp only [Bk.has] at hx' <;> (try cases hx') <;> rfl
          simp only [Instr.findNow, hs, placeE, hde]
          cases dEq1 x q.2.1 with
          | true => exact ⟨_, rfl, rfl, hk.2.2⟩
          | false => exact ih E (i + 1) hE.tail
    obtain ⟨r, h1, h2⟩ := key es E 0 hE
    refine ⟨r, ?_, h2⟩
    unfold Instr.findKey
    simp only [Sem.run_bind, run_underlying hd, Result.andThen_ok, h1, Sem.run_pure]
  · have key : ∀ (es : List (Nat × D × D)) (E : List MapEntry) (i : Nat), Entries ok w (.agg bs) es E →
        ∃ r, (Instr.findAsking t u E i).run P w = .ok r w ∧ Found ok w (placeE x es i) r := by
      intro es
      induction es with
      | nil =>
        intro E i hE
        cases E with
        | nil => exact ⟨none, rfl, trivial⟩
        | cons _ _ => have := hE.1; simp at this
      | cons q es ih =>
        intro E i hE
        cases E with
        | nil => have := hE.1; simp at this
        | cons e E =>
          have hk := hE.2.2 0 q e rfl rfl
          have hq : KSh.has (.agg bs) q.2.1 = true := hE.2.1 0 q rfl
          have heq := shT_eqD (T := T) h hx hq
          have hr := eqD_sound hT (w := w) 8 t x q.2.1 _ heq u e.key hu hk.2.1 Op.maxDepth (by decide)
          simp only [Instr.findAsking, Sem.run_bind, Op.equal, hr, Result.andThen_ok, placeE]
          cases dEq x q.2.1 with
          | true => exact ⟨_, rfl, rfl, hk.2.2⟩
          | false =>
            simp only [Bool.false_eq_true, if_false]
            exact ih E (i + 1) hE.tail
    unfold Instr.findKey
    simp only [Sem.run_bind, run_underlying hd, Result.andThen_ok]
    cases hE0 : E with
    | nil =>
      subst hE0
      obtain ⟨r, h1, h2⟩ := key es [] 0 hE
      cases es with
      | nil => exact ⟨none, rfl, trivial⟩
      | cons _ _ => have := hE.1; simp at this
    | cons e E' =>
      subst hE0
      obtain ⟨r, h1, h2⟩ := key es (e :: E') 0 hE
      have : Instr.findNow (.struct F) u (e :: E') 0 = none := by
        simp only [Instr.findNow, Instr.sameNow]
      rw [this]
      exact ⟨r, h1, h2⟩

theorem mapT_sound (hT : TabOk P T) {t : TypeId} {sh : KSh} {ye : Ty} (h : mapT T t = some (sh, ye)) : ∃ k e, P.underlying t = some (.map k e) ∧ shT T k = some sh ∧ T e = some ye := by
  unfold mapT at h
  split at h
  · rename_i y hy
    obtain ⟨d, hd, htd, _⟩ := hT.und t y hy
    split at h
    · rename_i k e he
      split at h
      · rename_i sh' ye' h1 h2
        cases h
        exact ⟨k, e, by rw [hd, tdOf_map (htd.trans he)], h1, h2⟩
      · cases h
    · cases h
  · cases h

theorem ORel.entries {n : Nat} {sh : KSh} {es : List (Nat × D × D)} {clock : Nat} {b : Option Bind} (h : ORel n μ w (.map sh es clock) b) :
    ∃ bd E, b = some bd ∧ bd.ver = 0 ∧ w.heap[bd.blk]? = some (.map E clock) ∧ Entries (okOf μ) w sh es E.toList := by
  obtain ⟨bd, E, rfl, hv, hg, hl, hsh, hr⟩ := h
  exact ⟨bd, E, rfl, hv, hg, by simpa using hl, hsh, fun i q e h1 h2 => hr i q e h1 (by simpa using h2)⟩

theorem run_getObj_mapE {r clock : Nat} {E : Array MapEntry} (h : w.heap[r]? = some (.map E clock)) : (getObj r).run P w = .ok (.map E clock) w := by
  simp [getObj, Sem.run, h]

include hT in
theorem alookup_sound {h : Heap} (hh : HRel h μ w) {t : TypeId} {x i : AV} {ok : Bool} {K : AV → Prop} (hk : alookup T h t x i ok K) {u v : Value} (hu : ARel h.nx μ w x u) (hv : ARel h.nx μ w i v) :
    ∃ r z, K z ∧ (Instr.lookup t u v ok).run P w = .ok r w ∧ ARel h.nx μ w z r := by
  unfold alookup at hk
  split at hk
  · rename_i sh ye k hmt hkd
    obtain ⟨kt, e, hund, hsh, hye⟩ := mapT_sound hT hmt
    have hkr := toD_rel hv hkd
    obtain ⟨z, hz, hzr, _⟩ := run_zero hT hye w
    cases hc : sh.has k with
    | false => rw [hc] at hk; cases hk
    | true =>
      rw [hc, cond_true] at hk
      have fin : ∀ (y : D) (q : Value) (b : Bool), DRel (okOf μ) w y q → ARel h.nx μ w (cond ok (.tup [.d y, cond b .tt .ff]) (.d y)) (if ok = true then .tuple #[q, .bool b] else q) := by
        intro y q b hy
        cases ok with
        | false => exact .d _ _ hy
        | true =>
          refine .tup [.d y, cond b .tt .ff] [q, .bool b] rfl (fun i c v h1 h2 => ?_)
          cases i with
          | zero => simp at h1 h2; subst h1 h2; exact .d _ _ hy
          | succ i =>
            cases i with
            | zero => simp at h1 h2; subst h1 h2; cases b <;> constructor
            | succ i => simp at h1
      have core : ∀ (es : List (Nat × D × D)) (blk clock : Nat) (E : Array MapEntry), w.heap[blk]? = some (.map E clock) → Entries (okOf μ) w sh es E.toList → (∃ (b : Bool) (v : D), findE k es = cond b (some v) none ∧ lookK ok ye.zero b v K) →
          ∃ r z, K z ∧ (Instr.lookup t (.map (some blk)) v ok).run P w = .ok r w ∧ ARel h.nx μ w z r := by
        intro es blk clock E hg hent hk
        have hck := run_checkKey_sh hT hsh hc hkr E.isEmpty
        obtain ⟨r, hf, hfo⟩ := run_findKey_sh hT hsh hc hkr hent
        have hpf := placeE_find k es 0
        unfold Instr.lookup
        cases r with
        | none =>
          have : placeE k es 0 = none := by cases hp : placeE k es 0 with | none => rfl | some p => rw [hp] at hfo; cases hfo
          rw [this] at hpf
          obtain ⟨b0, v0, hfe, hk⟩ := hk
          have hb0 : b0 = false := by cases b0 with | false => rfl | true => rw [hfe] at hpf; cases hpf
          subst hb0
          have hrun : ∀ q : Value, q = z → Sem.run P (Instr.lookup t (.map (some blk)) v ok) w = .ok (if ok = true then .tuple #[q, .bool false] else q) w := by
            intro q hq; subst hq
            unfold Instr.lookup
            simp only [Sem.run_bind, run_underlying hund, Result.andThen_ok, Sem.run_pure, run_getObj_mapE hg, hck, hf, hz]
          have hrun := hrun z rfl
          unfold Instr.lookup at hrun
          rcases hk with ⟨h1, h2, hk⟩ | hk
          · refine ⟨_, _, hk, hrun, ?_⟩
            have hz0 : DRel (okOf μ) w (.bool false) z := h2 ▸ hzr _ w
            cases ok with
            | false => exact .d _ _ hz0
            | true =>
              refine .tup [_, _] [z, .bool false] rfl fun i c v h3 h4 => ?_
              match i with
              | 0 => simp at h3 h4; subst h3 h4; exact .d _ _ hz0
              | 1 => simp at h3 h4; subst h3 h4; exact .d _ _ (.bool _)
              | i + 2 => simp at h3
          · exact ⟨_, _, hk.2 rfl, hrun, fin ye.zero z false (hzr _ w)⟩
        | some r =>
          obtain ⟨j, q⟩ := r
          cases hp : placeE k es 0 with
          | none => rw [hp] at hfo; cases hfo
          | some p =>
            rw [hp] at hfo hpf
            obtain ⟨b0, v0, hfe, hk⟩ := hk
            have hb0 : b0 = true ∧ v0 = p.2 := by
              cases b0 with
              | false => rw [hfe] at hpf; cases hpf
              | true => rw [hfe] at hpf; simp at hpf; exact ⟨rfl, hpf.symm⟩
            obtain ⟨rfl, rfl⟩ := hb0
            have hrun : ∀ q' : Value, q' = q → Sem.run P (Instr.lookup t (.map (some blk)) v ok) w = .ok (if ok = true then .tuple #[q', .bool true] else q') w := by
              intro q' hq; subst hq
              unfold Instr.lookup
              simp only [Sem.run_bind, run_underlying hund, Result.andThen_ok, Sem.run_pure, run_getObj_mapE hg, hck, hf]
            have hrun := hrun q rfl
            unfold Instr.lookup at hrun
            rcases hk with ⟨h1, h2, hk⟩ | hk
            · refine ⟨_, _, hk, hrun, ?_⟩
              have hq0 : DRel (okOf μ) w (.bool true) q := h1 ▸ hfo.2
              cases ok with
              | false => exact .d _ _ hq0
              | true =>
                refine .tup [_, _] [q, .bool true] rfl fun i c v h3 h4 => ?_
                match i with
                | 0 => simp at h3 h4; subst h3 h4; exact .d _ _ hq0
                | 1 => simp at h3 h4; subst h3 h4; exact .d _ _ (.bool _)
                | i + 2 => simp at h3
            · exact ⟨_, _, hk.1 rfl, hrun, fin p.2 q true hfo.2⟩
      split at hk
      · cases hu; rename_i hu; cases hu
        refine ⟨_, _, hk, ?_, fin ye.zero z false (hzr _ w)⟩
        have hck := run_checkKey_sh hT hsh hc hkr true
        obtain ⟨r, hf, hfo⟩ := run_findKey_sh hT hsh hc hkr (es := []) (E := []) ⟨rfl, fun i q h => by simp at h, fun i q e h => by simp at h⟩
        cases r with
        | some r => cases hfo
        | none =>
          unfold Instr.lookup
          simp only [Sem.run_bind, run_underlying hund, Result.andThen_ok, Sem.run_pure, Array.isEmpty_empty, hck, hf, hz]
      · rename_i sh' es clock
        cases hu with
        | d _ _ hd =>
        cases hd with
        | mapd _ _ _ r E hok hg hl hsh' hborn hkey hval =>
        cases hcc : shEq sh sh' with
        | false => rw [hcc] at hk; cases hk
        | true =>
          rw [hcc, cond_true] at hk
          have := shEq_eq hcc; subst this
          exact core es r clock E hg ⟨by simpa using hl, hsh', fun i q e h1 h2 => ⟨hborn i q e h1 (by simpa using h2), hkey i q e h1 (by simpa using h2), hval i q e h1 (by simpa using h2)⟩⟩ hk
      · rename_i b
        split at hk
        · rename_i sh' es clock hget
          cases hcc : shEq sh sh' with
          | false => rw [hcc] at hk; cases hk
          | true =>
            rw [hcc, cond_true] at hk
            have := shEq_eq hcc; subst this
            have ho := hh.obj b
            rw [hget] at ho
            obtain ⟨bd, E, hb, hver, hg, hent⟩ := ho.entries
            cases hu with
            | map _ r hbn hr =>
            have := hr bd hb hver; subst this
            exact core es bd.blk clock E hg hent hk
        · cases hk
      · cases hk
  · cases hk
theorem findE_upd {s t : List UInt8} {v : D} {c : Nat} : ∀ (es : List (Nat × D × D)), findE (.str t) (updE (.str s) v c es) = cond (t == s) (some v) (findE (.str t) es)
  | [] => by
    show cond (t == s) (some v) none = _
    rfl
  | q :: r => by
    simp only [updE]
    cases hq : dEq (.str s) q.2.1 with
    | true =>
      show cond (t == s) (some v) (findE (.str t) r) = cond (t == s) (some v) (cond (dEq (.str t) q.2.1) (some q.2.2) (findE (.str t) r))
      cases hts : (t == s) with
      | true => rfl
      | false =>
        have : dEq (.str t) q.2.1 = false := by
          cases hk : q.2.1 with
          | str k =>
            rw [hk] at hq
            have hq : (s == k) = true := hq
            show (t == k) = false
            rw [← eq_of_beq hq]; exact hts
          | _ => rw [hk] at hq; cases hq
        rw [this]; rfl
    | false =>
      show cond (dEq (.str t) q.2.1) (some q.2.2) (findE (.str t) (updE (.str s) v c r)) = cond (t == s) (some v) (cond (dEq (.str t) q.2.1) (some q.2.2) (findE (.str t) r))
      rw [findE_upd r]
      cases hts : (t == s) with
      | true =>
        have : dEq (.str t) q.2.1 = false := by rw [eq_of_beq hts]; exact hq
        rw [this]; rfl
      | false => rfl
end
end Go.Pm
end
section
/- Maps: written, made. -/
namespace Go.Pm

theorem updE_some (k v : D) (c : Nat) : ∀ (es : List (Nat × D × D)) (j i : Nat) (d : D), placeE k es j = some (i, d) → j ≤ i ∧ ∃ q, es[i - j]? = some q ∧ updE k v c es = es.set (i - j) (q.1, k, v)
  | [], j, i, d, h => by cases h
  | q :: r, j, i, d, h => by
    simp only [placeE] at h
    simp only [updE]
    cases hq : dEq k q.2.1 with
    | true =>
      rw [hq] at h
      cases h
      exact ⟨Nat.le_refl _, q, by simp, by simp⟩
    | false =>
      rw [hq] at h
      obtain ⟨h1, p, h2, h3⟩ := updE_some k v c r (j + 1) i d h
      have e : i - j = (i - (j + 1)) + 1 := by omega
      refine ⟨by omega, p, ?_, ?_⟩
      · rw [e]; simpa using h2
      · rw [e, cond_false, h3]; rfl
theorem updE_none (k v : D) (c : Nat) : ∀ (es : List (Nat × D × D)) (j : Nat), placeE k es j = none → updE k v c es = es ++ [(c, k, v)]
  | [], j, h => rfl
  | q :: r, j, h => by
    simp only [placeE] at h
    simp only [updE]
    cases hq : dEq k q.2.1 with
    | true => rw [hq] at h; cases h
    | false =>
      rw [hq] at h
      rw [cond_false, updE_none k v c r (j + 1) h]; rfl

section
variable {P : Program} {T : Tab} (hT : TabOk P T) {μ : Mu} {w : World}

theorem run_setObj_mapE {r clock : Nat} {E : Array MapEntry} (o : Obj) (h : w.heap[r]? = some (.map E clock)) : (setObj r o).run P w = .ok () { w with heap := w.heap.setIfInBounds r o } := by
  simp [setObj, Sem.run, h]

theorem Entries.orel {n : Nat} {sh : KSh} {es : List (Nat × D × D)} {clock : Nat} {bd : Bind} {E : Array MapEntry} (hv : bd.ver = 0) (hg : w.heap[bd.blk]? = some (.map E clock)) (h : Entries (okOf μ) w sh es E.toList) : ORel n μ w (.map sh es clock) (some bd) :=
  ⟨bd, E, rfl, hv, hg, by simpa using h.1, h.2.1, fun i q e h1 h2 => h.2.2 i q e h1 (by simpa using h2)⟩

theorem Entries.keep {ok ok' : Nat → Prop} {w' : World} (hk : Keeps ok ok' w w') {sh : KSh} {es : List (Nat × D × D)} {E : List MapEntry} (h : Entries ok w sh es E) : Entries ok' w' sh es E :=
  ⟨h.1, h.2.1, fun i q e h1 h2 => let ⟨a, b, c⟩ := h.2.2 i q e h1 h2; ⟨a, b.keep hk, c.keep hk⟩⟩

theorem run_keyThatStays {sh : KSh} {x y : D} (hx : sh.has x = true) (hy : sh.has y = true) (he : dEq x y = true) {ok : Nat → Prop} {u v : Value} (hu : DRel ok w x u) (hv : DRel ok w y v) : (Instr.keyThatStays v u).run P w = .ok u w := by
  have := KSh.has_eq hx hy he hu hv
  subst this
  simp [Instr.keyThatStays, sameBits_self hx hu]

theorem placeE_eq (k : D) : ∀ (es : List (Nat × D × D)) (j i : Nat) (d : D), placeE k es j = some (i, d) → ∃ q, es[i - j]? = some q ∧ dEq k q.2.1 = true ∧ j ≤ i
  | [], j, i, d, h => by cases h
  | q :: r, j, i, d, h => by
    simp only [placeE] at h
    cases hq : dEq k q.2.1 with
    | true =>
      rw [hq] at h
      cases h
      exact ⟨q, by simp, hq, Nat.le_refl _⟩
    | false =>
      rw [hq] at h
      obtain ⟨p, h2, h3, h1⟩ := placeE_eq k r (j + 1) i d h
      have e : i - j = (i - (j + 1)) + 1 := by omega
      exact ⟨p, by rw [e]; simpa using h2, h3, by omega⟩

include hT in
theorem amapUpdate_sound {h : Heap} (hh : HRel h μ w) {t : TypeId} {x i y : AV} {K : AV → Heap → Prop} (hk : amapUpdate T h t x i y K) {u v z : Value} (hu : ARel h.nx μ w x u) (hv : ARel h.nx μ w i v) (hz : ARel h.nx μ w y z) :
    ∃ h' w', K .junk h' ∧ HRel h' μ w' ∧ Ext h.nx μ w μ w' ∧ h.nx ≤ h'.nx ∧ (Instr.mapUpdate t u v z).run P w = .ok () w' := by
  unfold amapUpdate at hk
  split at hk
  · rename_i sh ye k d hmt hkd hyd
    obtain ⟨kt, e, hund, hsh, hye⟩ := mapT_sound hT hmt
    have hkr := toD_rel hv hkd
    have hyr := toD_rel hz hyd
    cases hc : sh.has k with
    | false => rw [hc] at hk; cases hk
    | true =>
      rw [hc, cond_true] at hk
      split at hk
      · rename_i b
        split at hk
        · rename_i sh' es clock hget
          cases hcc : shEq sh sh' with
          | false => rw [hcc] at hk; cases hk
          | true =>
            rw [hcc, cond_true] at hk
            have := shEq_eq hcc; subst this
            have ho := hh.obj b
            rw [hget] at ho
            obtain ⟨bd, E, hb, hver, hg, hent⟩ := ho.entries
            cases hu with
            | map _ r hbn hr =>
            have := hr bd hb hver; subst this
            have hck := run_checkKey_sh hT hsh hc hkr false
            obtain ⟨r, hf, hfo⟩ := run_findKey_sh hT hsh hc hkr hent
            have hhas := placeE_has k es 0
            have hlt : bd.blk < w.heap.size := (Array.getElem?_eq_some_iff.1 hg).1
            have wr : ∀ (es' : List (Nat × D × D)) (clock' : Nat) (E' : Array MapEntry), Entries (okOf μ) w sh es' E'.toList →
                HRel (h.set b (.map sh es' clock')) μ { w with heap := w.heap.setIfInBounds bd.blk (.map E' clock') } ∧ Ext h.nx μ w μ { w with heap := w.heap.setIfInBounds bd.blk (.map E' clock') } := by
              intro es' clock' E' hE'
              refine hh.write b bd hb (Bind.real0 hver) (.map sh es' clock') rfl rfl rfl (by simp) (fun i hi => ?_) (fun hext => ?_)
              · simp [Ne.symm hi]
              · exact (hE'.keep hext.keeps).orel hver (by simp [hlt])
            cases r with
            | none =>
              have hp : placeE k es 0 = none := by cases hp : placeE k es 0 with | none => rfl | some p => rw [hp] at hfo; cases hfo
              rw [hp] at hhas
              rw [← hhas] at hk
              rw [updE_none k d clock es 0 hp] at hk
              obtain ⟨g1, g2⟩ := wr (es ++ [(clock, k, d)]) (clock + 1) (E.push { key := v, val := z, born := clock }) (by
                refine ⟨by simp [hent.1], fun i q hq => ?_, fun i q e hq he => ?_⟩
                · rw [List.getElem?_append] at hq
                  split at hq
                  · exact hent.2.1 i q hq
                  · cases hi : i - es.length with
                    | zero => rw [hi] at hq; simp at hq; subst hq; exact hc
                    | succ m => rw [hi] at hq; simp at hq
                · rw [List.getElem?_append] at hq
                  rw [Array.toList_push, List.getElem?_append] at he
                  have hl := hent.1
                  split at hq
                  · rename_i hlt2
                    rw [if_pos (by omega)] at he
                    exact hent.2.2 i q e hq he
                  · rename_i hlt2
                    rw [if_neg (by omega), hl] at he
                    cases hi : i - es.length with
                    | zero =>
                      rw [hi] at hq he; simp at hq he; subst hq he
                      exact ⟨rfl, hkr, hyr⟩
                    | succ m => rw [hi] at hq; simp at hq)
              refine ⟨_, _, hk, g1, g2, Nat.le_refl _, ?_⟩
              unfold Instr.mapUpdate
              simp only [Sem.run_bind, run_underlying hund, Result.andThen_ok, run_getObj_mapE hg, hck, hf, run_setObj_mapE _ hg]
            | some r =>
              obtain ⟨j, q0⟩ := r
              cases hp : placeE k es 0 with
              | none => rw [hp] at hfo; cases hfo
              | some p =>
                obtain ⟨i0, d0⟩ := p
                rw [hp] at hfo hhas
                obtain ⟨rfl, _⟩ := hfo
                rw [← hhas] at hk
                obtain ⟨_, q, hq1, hq2⟩ := updE_some k d clock es 0 i0 d0 hp
                obtain ⟨q', hq1', hq3, _⟩ := placeE_eq k es 0 i0 d0 hp
                rw [Nat.sub_zero] at hq1 hq2 hq1'
                rw [hq1] at hq1'; cases hq1'
                rw [hq2] at hk
                have hi0 : i0 < E.size := by
                  have h1 := (List.getElem?_eq_some_iff.1 hq1).1
                  have h2 := hent.1
                  simp at h2; omega
                have he0 := hent.2.2 i0 q E[i0] hq1 (by simp [hi0])
                have hkt := run_keyThatStays (P := P) hc (hent.2.1 i0 q hq1) hq3 hkr he0.2.1
                obtain ⟨g1, g2⟩ := wr (es.set i0 (q.1, k, d)) clock (E.modify i0 fun e => { e with key := v, val := z }) (by
                  refine ⟨by simpa using hent.1, fun i p hp => ?_, fun i p e hp he => ?_⟩
                  · rw [List.getElem?_set] at hp
                    split at hp
                    · split at hp
                      · cases hp; exact hc
                      · cases hp
                    · exact hent.2.1 i p hp
                  · rw [List.getElem?_set] at hp
                    simp only [Array.getElem?_toList, Array.getElem?_modify] at he
                    split at hp
                    · rename_i hi
                      subst hi
                      rw [if_pos rfl] at he
                      split at hp
                      · cases hp
                        simp only [hi0, Array.getElem?_eq_getElem, Option.map_some, Option.some.injEq] at he
                        subst he
                        exact ⟨he0.1, hkr, hyr⟩
                      · cases hp
                    · rename_i hi
                      rw [if_neg hi] at he
                      exact hent.2.2 i p e hp (by simpa using he))
                refine ⟨_, _, hk, g1, g2, Nat.le_refl _, ?_⟩
                unfold Instr.mapUpdate
                simp only [Sem.run_bind, run_underlying hund, Result.andThen_ok, run_getObj_mapE hg, hck, hf, Array.getElem?_eq_getElem hi0, Option.map_some, Option.getD_some, hkt, run_setObj_mapE _ hg]
        · cases hk
      · cases hk
  · cases hk

include hT in
theorem amakeMap_sound {h : Heap} (hh : HRel h μ w) {t : TypeId} {res : Option AV} {K : AV → Heap → Prop} (hk : amakeMap T h t res K) {rv : Option Value} (hr : ∀ c, res = some c → ∃ u, rv = some u ∧ ARel h.nx μ w c u) (hr2 : res = none → rv = none) :
    ∃ x h' μ' w' r, K x h' ∧ HRel h' μ' w' ∧ Ext h.nx μ w μ' w' ∧ h.nx ≤ h'.nx ∧ (Instr.makeMap t rv).run P w = .ok r w' ∧ ARel h'.nx μ' w' x r := by
  unfold amakeMap at hk
  split at hk
  · rename_i sh ye hmt
    obtain ⟨kt, e, hund, hsh, hye⟩ := mapT_sound hT hmt
    obtain ⟨hk0, hk⟩ := hk
    obtain ⟨g1, g2⟩ := hh.push (w' := w.alloc (.map #[] 0)) (.map sh [] 0) (.map #[] 0) ⟨w.heap.size, 0, 0, 0, noSub⟩ rfl (fun _ h => h) rfl (fun hext =>
      ⟨_, #[], rfl, rfl, heap_alloc_new w _, rfl, fun i q h => by simp at h, fun i q e h => by simp at h⟩)
    refine ⟨_, _, _, _, .map (some w.heap.size), hk, g1, g2, Nat.le_succ _, ?_, .map _ _ (Nat.lt_succ_self _) (fun bd hb _ => ?_)⟩
    · unfold Instr.makeMap
      split at hk0
      · have := hr2 rfl; subst this; rfl
      · obtain ⟨v, rfl, hv⟩ := hr _ rfl
        cases hv; rename_i hv; cases hv
        simp only [Sem.run_bind, run_underlying hund, Result.andThen_ok, asInt, asIntOf, Sem.run_pure]
        rfl
      · cases hk0
    · rw [muSet_at, if_pos rfl] at hb; cases hb; rfl
  · cases hk
end
end Go.Pm
end
section
/- Iterators over strings and maps; bytes of strings and back. -/
namespace Go.Pm
open Go.ChangeMaps (setBlock)

/-- The rune at a place of a string, and its width. -/
def runeAt (s : List UInt8) (pos : Nat) : Nat × Nat := Utf8.decode ⟨s.toArray⟩ pos

def arange (T : Tab) (h : Heap) (t : TypeId) (x : AV) (K : AV → Heap → Prop) : Prop :=
  match T t with
  | some y => match y.td, x with
    | .str, .d (.str s) => K (.ptr h.nx 0) (h.push (.siter s 0))
    | .map _ _, .d .nilmap => K (.ptr h.nx 0) (h.push (.miter none 0 [] 0))
    | .map _ _, .map b => match h.get b with
      | .map _ _ clock => K (.ptr h.nx 0) (h.push (.miter (some b) clock [] clock))
      | _ => False
    | .map _ _, .d (.mapd sh es clock) => K (.ptr h.nx 0) (h.push (.diter sh es clock clock [] clock))
    | _, _ => False
  | none => False

def anext (h : Heap) (it : AV) (isS : Bool) (K : AV → Heap → Prop) : Prop :=
  match it with
  | .ptr k 0 => match h.get k, isS with
    | .siter s pos, true => (decide (pos < s.length) = true → K (.tup [.tt, .d (.int .i64 (pos : Int)), .d (.int .i32 ((runeAt s pos).1 : Int))]) (h.set k (.siter s (pos + (runeAt s pos).2)))) ∧
        (decide (pos < s.length) = false → K (.tup [.ff]) h)
    | .miter none _ _ _, false => K (.tup [.ff]) h
    | .miter (some m) since seen st, false => match h.get m with
      | .map _ es clock => (since ≤ st ∧ ∀ e ∈ es, e.1 < since) ∧ (∀ e ∈ es, e.1 ∉ seen → K (.tup [.tt, .d e.2.1, .d e.2.2]) (h.set k (.miter (some m) since (seen ++ [e.1]) clock))) ∧
          ((∀ e ∈ es, e.1 ∈ seen) → K (.tup [.ff]) h)
      | _ => False
    | .diter sh es clock since seen st, false => (since ≤ st ∧ ∀ e ∈ es, e.1 < since) ∧ (∀ e ∈ es, e.1 ∉ seen → K (.tup [.tt, .d e.2.1, .d e.2.2]) (h.set k (.diter sh es clock since (seen ++ [e.1]) clock))) ∧
          ((∀ e ∈ es, e.1 ∈ seen) → K (.tup [.ff]) h)
    | _, _ => False
  | _ => False

def aentry (h : Heap) (it : AV) (K : AV → Heap → Prop) : Prop :=
  match it with
  | .ptr k 0 => match h.get k with
    | .miter (some m) _ seen st => match h.get m with
      | .map _ es clock => ∃ e, e ∈ es ∧ seen.getLast? = some e.1 ∧ clock = st ∧ (es.map (·.1)).Nodup ∧ K (.tup [.d e.2.1, .d e.2.2]) h
      | _ => False
    | .diter _ es clock _ seen st => ∃ e, e ∈ es ∧ seen.getLast? = some e.1 ∧ clock = st ∧ (es.map (·.1)).Nodup ∧ K (.tup [.d e.2.1, .d e.2.2]) h
    | _ => False
  | _ => False

def byteD (b : UInt8) : D := .int .u8 (b.toNat : Int)

/-- Conversions between strings and bytes. -/
def aconvM (T : Tab) (h : Heap) (src dst : TypeId) (x : AV) (K : AV → Heap → Prop) : Prop :=
  match T src, T dst with
  | some ys, some yd => match ys.td, yd.td with
    | .str, .slice e => match T e with
      | some ye => match ye.td, x with
        | .int .u8, .d (.str s) => K (.own h.nx 1 1) (h.push (.row e 1 (s.map byteD) 1))
        | _, _ => False
      | none => False
    | .slice e, .str => match T e with
      | some ye => match ye.td with
        | .int .u8 => match x with
          | .d .nils => K (.d (.str [])) h
          | .own b ver sz => match h.get b with
            | .row _ sz' l ver' => cond (Nat.beq sz 1 && Nat.beq sz' 1) (∃ bs : List UInt8, ver = ver' ∧ l = bs.map byteD ∧ bs.length ≤ maxLen ∧ K (.d (.str bs)) h) False
            | _ => False
          | _ => False
        | _ => False
      | none => False
    | _, _ => aconv T src dst x fun z => K z h
  | _, _ => False

section
variable {P : Program} {T : Tab} (hT : TabOk P T) {μ : Mu} {w : World}

theorem run_getObj_at {r : Nat} {o : Obj} (h : w.heap[r]? = some o) (hn : ∀ c e f, o ≠ .cells c e f) : (getObj r).run P w = .ok o w := by
  unfold getObj
  cases o <;> first | (simp [Sem.run, h]; done) | exact absurd rfl (hn _ _ _)

include hT in
theorem arange_sound {h : Heap} (hh : HRel h μ w) {t : TypeId} {x : AV} {K : AV → Heap → Prop} (hk : arange T h t x K) {u : Value} (hx : ARel h.nx μ w x u) :
    ∃ z h' μ' w' r, K z h' ∧ HRel h' μ' w' ∧ Ext h.nx μ w μ' w' ∧ h.nx ≤ h'.nx ∧ (Instr.range t u).run P w = .ok r w' ∧ ARel h'.nx μ' w' z r := by
  unfold arange at hk
  split at hk
  · rename_i y hy
    obtain ⟨d, hd, htd, _⟩ := hT.und t y hy
    have fin : ∀ (o : AObj) (O : Obj), (Ext h.nx μ w (muSet μ h.nx (some ⟨w.heap.size, 0, 0, 0, noSub⟩)) (w.alloc O) → ORel (h.nx + 1) (muSet μ h.nx (some ⟨w.heap.size, 0, 0, 0, noSub⟩)) (w.alloc O) o (some ⟨w.heap.size, 0, 0, 0, noSub⟩)) →
        (Instr.range t u).run P w = .ok (.pointer (some ⟨w.heap.size, 0, none⟩)) (w.alloc O) → K (.ptr h.nx 0) (h.push o) →
        ∃ z h' μ' w' r, K z h' ∧ HRel h' μ' w' ∧ Ext h.nx μ w μ' w' ∧ h.nx ≤ h'.nx ∧ (Instr.range t u).run P w = .ok r w' ∧ ARel h'.nx μ' w' z r := by
      intro o O ho hr hk
      obtain ⟨h1, h2⟩ := hh.push o O ⟨w.heap.size, 0, 0, 0, noSub⟩ rfl (fun _ h => h) rfl ho
      exact ⟨_, _, _, _, _, hk, h1, h2, Nat.le_succ _, hr, ptr_new _ _⟩
    split at hk
    · rename_i s he
      cases hx; rename_i hx; cases hx
      have : d = .string := by rw [he] at htd; cases d <;> simp [tdOf] at htd <;> rfl
      subst this
      refine fin (.siter s 0) (.stringIter ⟨s.toArray⟩ 0) (fun _ => ⟨_, rfl, rfl, heap_alloc_new w _⟩) ?_ hk
      simp [Instr.range, run_underlying hd]
    · rename_i a b he
      cases hx; rename_i hx; cases hx
      have : ∃ a b, d = .map a b := by rw [he] at htd; cases d <;> simp [tdOf] at htd <;> exact ⟨_, _, rfl⟩
      obtain ⟨a, b, rfl⟩ := this
      refine fin (.miter none 0 [] 0) (.mapIter none 0 #[] 0) (fun _ => ⟨_, rfl, rfl, none, heap_alloc_new w _, rfl⟩) ?_ hk
      simp [Instr.range, run_underlying hd]
    · rename_i a b m he
      have : ∃ a b, d = .map a b := by rw [he] at htd; cases d <;> simp [tdOf] at htd <;> exact ⟨_, _, rfl⟩
      obtain ⟨a, b, rfl⟩ := this
      split at hk
      · rename_i sh es clock hget
        cases hx with
        | map _ k hb hr =>
        have ho := hh.obj m
        rw [hget] at ho
        obtain ⟨bd, E, hbd, hv, hc, hrest⟩ := ho
        have := hr bd hbd hv; subst this
        refine fin (.miter (some m) clock [] clock) (.mapIter (some bd.blk) clock #[] clock) (fun _ => ⟨_, rfl, rfl, some bd.blk, heap_alloc_new w _, by omega, bd.blk, rfl, fun bd' hb' _ => ?_⟩) ?_ hk
        · rw [muSet_at, if_neg (by omega), hbd] at hb'; cases hb'; rfl
        · simp [Instr.range, run_underlying hd, run_getObj_at hc (by intros; simp)]
      · cases hk
    · rename_i a b sh es clock he
      have : ∃ a b, d = .map a b := by rw [he] at htd; cases d <;> simp [tdOf] at htd <;> exact ⟨_, _, rfl⟩
      obtain ⟨a, b, rfl⟩ := this
      cases hx; rename_i hx
      have hx0 := hx
      cases hx with
      | mapd _ _ _ k E hok hc hl hsh hborn hkey hval =>
      refine fin (.diter sh es clock clock [] clock) (.mapIter (some k) clock #[] clock) (fun hext => ⟨_, rfl, rfl, k, heap_alloc_new w _, hx0.keep hext.keeps⟩) ?_ hk
      simp [Instr.range, run_underlying hd, run_getObj_at hc (by intros; simp)]
    · cases hk
  · cases hk

theorem ptr0_addr {n b : Nat} {u : Value} {bd : Bind} (hx : ARel n μ w (.ptr b 0) u) (hb : μ b = some bd) (hv : bd.ver = 0) : u = .pointer (some ⟨bd.blk, 0, none⟩) := by
  cases hx with
  | ptr _ _ a _ ha => rw [ha bd hb hv]

theorem setBlock_size (r : Nat) (o : Obj) : (setBlock w r o).heap.size = w.heap.size := by simp [setBlock]
theorem setBlock_other (r i : Nat) (o : Obj) (h : i ≠ r) : (setBlock w r o).heap[i]? = w.heap[i]? := by simp [setBlock, Ne.symm h]
theorem setBlock_same (r : Nat) (o : Obj) (h : r < w.heap.size) : (setBlock w r o).heap[r]? = some o := by simp [setBlock, h]

theorem Ext.drew (n : Nat) (_hi : ∀ i, n ≤ i → μ.pos i = none) : Ext n μ w μ w.drew :=
  ⟨rfl, rfl, rfl, Nat.le_refl _, rfl, fun _ _ _ => rfl, fun _ bd' _ h => ⟨bd', h, .inl ⟨_, rfl⟩⟩, fun _ _ h => h⟩
theorem HRel.drew {h : Heap} (hh : HRel h μ w) : HRel h μ w.drew :=
  ⟨hh.outs, hh.fresh, fun i => (hh.obj i).ext (Ext.drew h.nx hh.hi) (Nat.le_refl _) (fun _ _ _ _ => rfl), hh.hi, hh.inj, hh.lts⟩

theorem anext_sound {h : Heap} (hh : HRel h μ w) {x : AV} {isS : Bool} {ty : TypeId} {K : AV → Heap → Prop} (hk : anext h x isS K) {u : Value} (hx : ARel h.nx μ w x u) :
    ∃ z h' μ' w' r, K z h' ∧ HRel h' μ' w' ∧ Ext h.nx μ w μ' w' ∧ h.nx ≤ h'.nx ∧ (Instr.next u isS ty).run P w = .ok r w' ∧ ARel h'.nx μ' w' z r := by
  have over : ∀ {w' : World}, w' = w → K (.tup [.ff]) h → (Instr.next u isS ty).run P w = .ok (.tuple #[.bool false]) w' →
      ∃ z h' μ' w' r, K z h' ∧ HRel h' μ' w' ∧ Ext h.nx μ w μ' w' ∧ h.nx ≤ h'.nx ∧ (Instr.next u isS ty).run P w = .ok r w' ∧ ARel h'.nx μ' w' z r := by
    intro w' e hk hr
    subst e
    exact ⟨_, h, μ, _, _, hk, hh, .refl _ _ _ hh.hi, Nat.le_refl _, hr, .tup _ [.bool false] rfl fun i c v h1 h2 => by
      cases i with
      | zero => simp at h1 h2; subst h1 h2; exact .ff
      | succ i => simp at h1⟩
  unfold anext at hk
  split at hk
  · rename_i k
    split at hk
    · rename_i s pos hget
      have ho := hh.obj k
      rw [hget] at ho
      obtain ⟨bd, hb, hv, hc⟩ := ho
      have := ptr0_addr hx hb hv; subst this
      by_cases hp : pos < s.length
      · have hk := hk.1 (by simpa using hp)
        have hr := Lib.run_next_any_at (P := P) w bd.blk ⟨s.toArray⟩ pos ty hc (by simpa [ByteArray.size] using hp)
        have hlt : bd.blk < w.heap.size := hh.lt hb (Bind.real0 hv)
        obtain ⟨h1, h2⟩ := hh.write (w' := w.iterAt bd.blk ⟨s.toArray⟩ (pos + (runeAt s pos).2)) k bd hb (Bind.real0 hv) (.siter s (pos + (runeAt s pos).2)) rfl rfl rfl (by simp [World.iterAt]) (fun i hi => by simp [World.iterAt, Ne.symm hi]) (fun hext =>
          ⟨bd, rfl, hv, by simp [World.iterAt, hlt]⟩)
        refine ⟨_, _, _, _, _, hk, h1, h2, Nat.le_refl _, hr, .tup _ [_, _, _] rfl fun i c v g1 g2 => ?_⟩
        match i with
        | 0 => simp at g1 g2; subst g1 g2; exact .tt
        | 1 => simp at g1 g2; subst g1 g2; exact .d _ _ (.int _ _)
        | 2 => simp at g1 g2; subst g1 g2; exact .d _ _ (.int _ _)
        | i + 3 => simp at g1
      · exact over rfl (hk.2 (by simpa using hp)) (Lib.run_next_end_at w bd.blk _ pos ty hc (by simpa [ByteArray.size] using hp))
    · rename_i a b c hget
      have ho := hh.obj k
      rw [hget] at ho
      obtain ⟨bd, hb, hv, m', hc, hm⟩ := ho
      have := ptr0_addr hx hb hv; subst this
      have hm : m' = none := hm
      subst hm
      exact over rfl hk (by simp [Instr.next, run_getObj_at hc (by intros; simp)])
    · rename_i m since seen st hget
      split at hk
      · rename_i sh es clock hgm
        obtain ⟨⟨hss, hold⟩, hk1, hk2⟩ := hk
        have ho := hh.obj k
        rw [hget] at ho
        obtain ⟨bd, hb, hv, m', hc, hmn, km, hm', hmb⟩ := ho
        subst hm'
        have := ptr0_addr hx hb hv; subst this
        have hom := hh.obj m
        rw [hgm] at hom
        obtain ⟨bm, E, hbm, hvm, hcm, hlen, hsh, hr⟩ := hom
        have := hmb bm hbm hvm; subst this
        have hE : ∀ x ∈ E.toList, ∃ q ∈ es, x.born = q.1 ∧ DRel (okOf μ) w q.2.1 x.key ∧ DRel (okOf μ) w q.2.2 x.val := by
          intro x hx
          obtain ⟨i, hi, rfl⟩ := List.mem_iff_getElem.1 hx
          have hi' : i < es.length := by simp at hi; omega
          exact ⟨es[i], by simp, hr i es[i] _ (List.getElem?_eq_getElem hi') (by simp at hi ⊢)⟩
        rcases run_next_at (P := P) w ty bd.blk bm.blk since st seen.toArray E clock hc hcm (fun x hx => by
          obtain ⟨q, hq, e, _⟩ := hE x hx
          rw [e]; exact hold q hq) hss with ⟨h0, hrun⟩ | ⟨e, he, w1, hw1, hrun⟩
        · refine over rfl (hk2 fun q hq => ?_) hrun
          obtain ⟨i, hi, rfl⟩ := List.mem_iff_getElem.1 hq
          have hi' : i < E.size := by omega
          have hq' := hr i es[i] E[i] (List.getElem?_eq_getElem hi) (Array.getElem?_eq_getElem hi')
          have hempty : leftOf E seen.toArray = #[] := Array.eq_empty_of_size_eq_zero h0
          unfold leftOf at hempty
          rw [Array.filter_eq_empty_iff] at hempty
          have := hempty E[i] (by simp)
          simp at this
          rw [← hq'.1]; exact this
        · unfold leftOf at he
          simp only [Array.toList_filter, List.mem_filter, Bool.not_eq_true', Array.contains_eq_mem, List.mem_toArray, decide_eq_false_iff_not] at he
          obtain ⟨q, hq, e1, e2, e3⟩ := hE e he.1
          have hk1 := hk1 q hq (by rw [← e1]; exact he.2)
          have hlt : bd.blk < w.heap.size := hh.lt hb (Bind.real0 hv)
          have hh1 : HRel h μ w1 ∧ Ext h.nx μ w μ w1 := by
            rcases hw1 with rfl | rfl
            · exact ⟨hh, .refl _ _ _ hh.hi⟩
            · exact ⟨hh.drew, Ext.drew _ hh.hi⟩
          have hsz1 : w1.heap = w.heap := by rcases hw1 with rfl | rfl <;> rfl
          obtain ⟨h1, h2⟩ := hh1.1.write (w' := setBlock w1 bd.blk (.mapIter (some bm.blk) since (seen.toArray.push e.born) clock)) k bd hb (Bind.real0 hv) (.miter (some m) since (seen ++ [q.1]) clock) rfl rfl rfl (by simp [setBlock]) (fun i hi => setBlock_other _ _ _ hi) (fun hext =>
            ⟨bd, rfl, hv, some bm.blk, by rw [setBlock_same _ _ (by rw [hsz1]; exact hlt)]; simp [e1], hmn, bm.blk, rfl, fun _ hb' _ => by rw [hbm] at hb'; cases hb'; rfl⟩)
          have hext := hh1.2.trans (Nat.le_refl _) h2
          refine ⟨_, _, _, _, _, hk1, h1, hext, Nat.le_refl _, hrun, .tup _ [_, _, _] rfl fun i c v g1 g2 => ?_⟩
          match i with
          | 0 => simp at g1 g2; subst g1 g2; exact .tt
          | 1 => simp at g1 g2; subst g1 g2; exact .d _ _ (e2.keep hext.keeps)
          | 2 => simp at g1 g2; subst g1 g2; exact .d _ _ (e3.keep hext.keeps)
          | i + 3 => simp at g1
      · cases hk
    · rename_i sh es clock since seen st hget
      obtain ⟨⟨hss, hold⟩, hk1, hk2⟩ := hk
      have ho := hh.obj k
      rw [hget] at ho
      obtain ⟨bd, hb, hv, km, hc, hdm⟩ := ho
      have := ptr0_addr hx hb hv; subst this
      have hdm0 := hdm
      cases hdm with
      | mapd _ _ _ _ E hok hcm hlen hsh hborn hkey hval =>
      have hE : ∀ x ∈ E.toList, ∃ q ∈ es, x.born = q.1 ∧ DRel (okOf μ) w q.2.1 x.key ∧ DRel (okOf μ) w q.2.2 x.val := by
        intro x hx
        obtain ⟨i, hi, rfl⟩ := List.mem_iff_getElem.1 hx
        have hi' : i < es.length := by simp at hi; omega
        have h2 : E[i]? = some E.toList[i] := by simp at hi ⊢
        exact ⟨es[i], by simp, hborn i es[i] _ (List.getElem?_eq_getElem hi') h2, hkey i es[i] _ (List.getElem?_eq_getElem hi') h2, hval i es[i] _ (List.getElem?_eq_getElem hi') h2⟩
      rcases run_next_at (P := P) w ty bd.blk km since st seen.toArray E clock hc hcm (fun x hx => by
        obtain ⟨q, hq, e, _⟩ := hE x hx
        rw [e]; exact hold q hq) hss with ⟨h0, hrun⟩ | ⟨e, he, w1, hw1, hrun⟩
      · refine over rfl (hk2 fun q hq => ?_) hrun
        obtain ⟨i, hi, rfl⟩ := List.mem_iff_getElem.1 hq
        have hi' : i < E.size := by omega
        have hq' := hborn i es[i] E[i] (List.getElem?_eq_getElem hi) (Array.getElem?_eq_getElem hi')
        have hempty : leftOf E seen.toArray = #[] := Array.eq_empty_of_size_eq_zero h0
        unfold leftOf at hempty
        rw [Array.filter_eq_empty_iff] at hempty
        have := hempty E[i] (by simp)
        simp at this
        rw [← hq']; exact this
      · unfold leftOf at he
        simp only [Array.toList_filter, List.mem_filter, Bool.not_eq_true', Array.contains_eq_mem, List.mem_toArray, decide_eq_false_iff_not] at he
        obtain ⟨q, hq, e1, e2, e3⟩ := hE e he.1
        have hk1 := hk1 q hq (by rw [← e1]; exact he.2)
        have hlt : bd.blk < w.heap.size := hh.lt hb (Bind.real0 hv)
        have hh1 : HRel h μ w1 ∧ Ext h.nx μ w μ w1 := by
          rcases hw1 with rfl | rfl
          · exact ⟨hh, .refl _ _ _ hh.hi⟩
          · exact ⟨hh.drew, Ext.drew _ hh.hi⟩
        have hsz1 : w1.heap = w.heap := by rcases hw1 with rfl | rfl <;> rfl
        obtain ⟨h1, h2⟩ := hh1.1.write (w' := setBlock w1 bd.blk (.mapIter (some km) since (seen.toArray.push e.born) clock)) k bd hb (Bind.real0 hv) (.diter sh es clock since (seen ++ [q.1]) clock) rfl rfl rfl (by simp [setBlock]) (fun i hi => setBlock_other _ _ _ hi) (fun hext =>
          ⟨bd, rfl, hv, km, by rw [setBlock_same _ _ (by rw [hsz1]; exact hlt)]; simp [e1], (hdm0.keep hh1.2.keeps).keep hext.keeps⟩)
        have hext := hh1.2.trans (Nat.le_refl _) h2
        refine ⟨_, _, _, _, _, hk1, h1, hext, Nat.le_refl _, hrun, .tup _ [_, _, _] rfl fun i c v g1 g2 => ?_⟩
        match i with
        | 0 => simp at g1 g2; subst g1 g2; exact .tt
        | 1 => simp at g1 g2; subst g1 g2; exact .d _ _ (e2.keep hext.keeps)
        | 2 => simp at g1 g2; subst g1 g2; exact .d _ _ (e3.keep hext.keeps)
        | i + 3 => simp at g1
    · cases hk
  · cases hk

theorem aentry_sound {h : Heap} (hh : HRel h μ w) {x : AV} {K : AV → Heap → Prop} (hk : aentry h x K) {u : Value} (hx : ARel h.nx μ w x u) :
    ∃ z h' μ' w' r, K z h' ∧ HRel h' μ' w' ∧ Ext h.nx μ w μ' w' ∧ h.nx ≤ h'.nx ∧ (Instr.entry u).run P w = .ok r w' ∧ ARel h'.nx μ' w' z r := by
  unfold aentry at hk
  split at hk
  · rename_i k
    split at hk
    · rename_i m since seen st hget
      split at hk
      · rename_i sh es clock hgm
        obtain ⟨q, hq, hlast, hcs, hnd, hk⟩ := hk
        subst hcs
        have ho := hh.obj k
        rw [hget] at ho
        obtain ⟨bd, hb, hv, m', hc, hmn, km, hm', hmb⟩ := ho
        subst hm'
        have := ptr0_addr hx hb hv; subst this
        have hom := hh.obj m
        rw [hgm] at hom
        obtain ⟨bm, E, hbm, hvm, hcm, hlen, hsh, hr⟩ := hom
        have := hmb bm hbm hvm; subst this
        obtain ⟨i, hi, rfl⟩ := List.mem_iff_getElem.1 hq
        have hi' : i < E.size := by omega
        have hq' := hr i es[i] E[i] (List.getElem?_eq_getElem hi) (Array.getElem?_eq_getElem hi')
        have hborn : E.toList.map (·.born) = es.map (·.1) := by
          apply List.ext_getElem?
          intro j
          rw [List.getElem?_map, List.getElem?_map]
          by_cases hj : j < es.length
          · have hj' : j < E.size := by omega
            have := hr j es[j] E[j] (List.getElem?_eq_getElem hj) (Array.getElem?_eq_getElem hj')
            simp [hj, hj', this.1]
          · rw [List.getElem?_eq_none (by simp; omega), List.getElem?_eq_none (by omega)]; rfl
        have hseen : ∃ s0 : Array Nat, seen.toArray = s0.push E[i].born := by
          obtain ⟨ys, rfl⟩ := List.getLast?_eq_some_iff.1 hlast
          exact ⟨ys.toArray, by rw [hq'.1]; apply Array.ext'; simp⟩
        obtain ⟨s0, hs0⟩ := hseen
        rw [hs0] at hc
        have hrun := run_entry_at (P := P) w bd.blk bm.blk since s0 E clock E[i] hc hcm (by simp) (by rw [hborn]; exact hnd)
        refine ⟨_, h, μ, w, _, hk, hh, .refl _ _ _ hh.hi, Nat.le_refl _, hrun, .tup _ [_, _] rfl fun i c v g1 g2 => ?_⟩
        match i with
        | 0 => simp at g1 g2; subst g1 g2; exact .d _ _ hq'.2.1
        | 1 => simp at g1 g2; subst g1 g2; exact .d _ _ hq'.2.2
        | i + 2 => simp at g1
      · cases hk
    · rename_i sh es clock since seen st hget
      obtain ⟨q, hq, hlast, hcs, hnd, hk⟩ := hk
      subst hcs
      have ho := hh.obj k
      rw [hget] at ho
      obtain ⟨bd, hb, hv, km, hc, hdm⟩ := ho
      have := ptr0_addr hx hb hv; subst this
      cases hdm with
      | mapd _ _ _ _ E hok hcm hlen hsh hbn hkey hval =>
      obtain ⟨i, hi, rfl⟩ := List.mem_iff_getElem.1 hq
      have hi' : i < E.size := by omega
      have hqb := hbn i es[i] E[i] (List.getElem?_eq_getElem hi) (Array.getElem?_eq_getElem hi')
      have hborn : E.toList.map (·.born) = es.map (·.1) := by
        apply List.ext_getElem?
        intro j
        rw [List.getElem?_map, List.getElem?_map]
        by_cases hj : j < es.length
        · have hj' : j < E.size := by omega
          have := hbn j es[j] E[j] (List.getElem?_eq_getElem hj) (Array.getElem?_eq_getElem hj')
          simp [hj, hj', this]
        · rw [List.getElem?_eq_none (by simp; omega), List.getElem?_eq_none (by omega)]; rfl
      have hseen : ∃ s0 : Array Nat, seen.toArray = s0.push E[i].born := by
        obtain ⟨ys, rfl⟩ := List.getLast?_eq_some_iff.1 hlast
        exact ⟨ys.toArray, by rw [hqb]; apply Array.ext'; simp⟩
      obtain ⟨s0, hs0⟩ := hseen
      rw [hs0] at hc
      have hrun := run_entry_at (P := P) w bd.blk km since s0 E clock E[i] hc hcm (by simp) (by rw [hborn]; exact hnd)
      refine ⟨_, h, μ, w, _, hk, hh, .refl _ _ _ hh.hi, Nat.le_refl _, hrun, .tup _ [_, _] rfl fun i' c v g1 g2 => ?_⟩
      match i' with
      | 0 => simp at g1 g2; subst g1 g2; exact .d _ _ (hkey i es[i] E[i] (List.getElem?_eq_getElem hi) (Array.getElem?_eq_getElem hi'))
      | 1 => simp at g1 g2; subst g1 g2; exact .d _ _ (hval i es[i] E[i] (List.getElem?_eq_getElem hi) (Array.getElem?_eq_getElem hi'))
      | i' + 2 => simp at g1
    · cases hk
  · cases hk

include hT in
theorem aconvM_sound {h : Heap} (hh : HRel h μ w) {src dst : TypeId} {x : AV} {K : AV → Heap → Prop} (hk : aconvM T h src dst x K) {u : Value} (hx : ARel h.nx μ w x u) :
    ∃ z h' μ' w' r, K z h' ∧ HRel h' μ' w' ∧ Ext h.nx μ w μ' w' ∧ h.nx ≤ h'.nx ∧ (convert src dst u).run P w = .ok r w' ∧ ARel h'.nx μ' w' z r := by
  unfold aconvM at hk
  split at hk
  · rename_i ys yd hys hyd
    obtain ⟨d1, hd1, htd1, _⟩ := hT.und src ys hys
    obtain ⟨d2, hd2, htd2, _⟩ := hT.und dst yd hyd
    split at hk
    · rename_i e he1 he2
      rw [he1] at htd1; rw [he2] at htd2
      have := tdOf_slice htd2; subst this
      split at hk
      · rename_i ye hye
        obtain ⟨d3, hd3, htd3, _⟩ := hT.und e ye hye
        split at hk
        · rename_i s hi8
          have h8 : d3 = .int .u8 := by rw [hi8] at htd3; cases d3 <;> simp [tdOf] at htd3; rw [htd3]
          subst h8
          cases hx; rename_i hx; cases hx; rename_i hsm
          have hrun := Lib.run_convert_string_bytes (P := P) w src dst e ⟨s.toArray⟩ hd1 hd2 hd3
          have hsz : (⟨s.toArray⟩ : ByteArray).size = s.length := by simp [ByteArray.size]
          have hge := grownCap_ge w (⟨s.toArray⟩ : ByteArray).size 0 e
          have hle := grownCap_le_maxLen w (⟨s.toArray⟩ : ByteArray).size 0 e (by rw [hsz]; exact hsm)
          rw [hsz] at hrun
          generalize hcap : grownCap w (⟨s.toArray⟩ : ByteArray).size 0 e = cap at hge hle
          rw [hsz] at hge hcap
          rw [hcap] at hrun
          have hcells : (Lib.bytesCells w e ⟨s.toArray⟩).size = cap := by
            simp [Lib.bytesCells, hsz, hcap]; omega
          have hext : Ext h.nx μ w (muSet μ h.nx (some ⟨w.heap.size, 1, cap, s.length, noSub⟩)) (Lib.bytesWorld w e ⟨s.toArray⟩) := by
            refine ⟨rfl, rfl, rfl, by rw [Lib.bytesWorld_size]; omega, rfl, fun k hk _ => Lib.bytesWorld_at_old w e _ k hk, fun i bd' hi hb => ?_, fun k hk hf i bd' hb hh2 => ?_⟩
            · rw [muSet_at, if_neg (by omega)] at hb
              exact ⟨bd', hb, .inl ⟨_, rfl⟩⟩
            · by_cases e0 : i = h.nx
              · subst e0; rw [muSet_at, if_pos rfl] at hb; cases hb
                rcases hh2 with ⟨_, h2⟩ | h2
                · simp only at h2; omega
                · exact h2
              · rw [muSet_at, if_neg e0] at hb; exact hf i bd' hb hh2
          have hat : ∀ k, Bind.has ⟨w.heap.size, 1, cap, s.length, noSub⟩ k → k = w.heap.size := fun k hk => by
            rcases hk with ⟨_, h2⟩ | h2
            · exact h2.symm
            · exact h2.elim
          refine ⟨_, _, muSet μ h.nx (some ⟨w.heap.size, 1, cap, s.length, noSub⟩), _, _, hk, ⟨fun i bd k hb hre => ?_, fun k hk => hh.fresh k (by rw [Lib.bytesWorld_size] at hk; omega), fun i => ?_, fun i hi => ?_, fun i j bi bj k h1 h2 hri hrj => ?_, fun i bd k hb hre => ?_⟩, hext, Nat.le_succ _, hrun, ?_⟩
          · by_cases e0 : i = h.nx
            · subst e0; rw [muSet_at, if_pos rfl] at hb; cases hb; rw [hat k hre]; exact hh.fresh _ (Nat.le_refl _)
            · rw [muSet_at, if_neg e0] at hb; exact hh.outs i bd k hb hre
          · rw [Heap.get_push]
            by_cases e0 : i = h.nx
            · subst e0
              rw [if_pos rfl, muSet_at, if_pos rfl]
              refine ⟨_, Lib.bytesCells w e ⟨s.toArray⟩, rfl, rfl, ⟨Nat.one_pos, Nat.one_pos⟩, fun _ => ⟨_, Lib.bytesWorld_at_new w e _, fun i hi => by simp; omega⟩, hcells, by simp, ?_, ?_, ?_⟩
              · rw [hcells]; simpa using hge
              · intro i x hx
                rw [List.getElem?_map, Option.map_eq_some_iff] at hx
                obtain ⟨q, _, rfl⟩ := hx; rfl
              · intro i x j u hx hu
                rw [List.getElem?_map, Option.map_eq_some_iff] at hx
                obtain ⟨q, hq, rfl⟩ := hx
                cases j with
                | zero =>
                  simp [D.cells, byteD] at hu; subst hu
                  have hlt : i < s.length := (List.getElem?_eq_some_iff.1 hq).1
                  have hq' : s[i] = q := (List.getElem?_eq_some_iff.1 hq).2
                  refine ⟨rfl, .int .u8 q.toNat, ?_, .int _ _⟩
                  simp [Lib.bytesCells, Array.getElem?_append, hlt, hq']
                | succ j => simp [D.cells, byteD] at hu
            · rw [if_neg e0, muSet_at, if_neg e0]
              exact (hh.obj i).ext hext (Nat.le_succ _) (fun bd' k hb' hre => Lib.bytesWorld_at_old w e _ _ (hh.lts i bd' k hb' hre))
          · have hi' : h.nx + 1 ≤ i := hi
            rw [muSet_at, if_neg (by omega)]
            exact hh.hi i (by omega)
          · by_cases ei : i = h.nx <;> by_cases ej : j = h.nx
            · omega
            · rw [muSet_at, if_pos ei] at h1; rw [muSet_at, if_neg ej] at h2; cases h1
              have := hh.lts j bj k h2 hrj; have := hat k hri; omega
            · rw [muSet_at, if_neg ei] at h1; rw [muSet_at, if_pos ej] at h2; cases h2
              have := hh.lts i bi k h1 hri; have := hat k hrj; omega
            · rw [muSet_at, if_neg ei] at h1; rw [muSet_at, if_neg ej] at h2
              exact hh.inj i j bi bj k h1 h2 hri hrj
          · rw [Lib.bytesWorld_size]
            by_cases e0 : i = h.nx
            · subst e0; rw [muSet_at, if_pos rfl] at hb; cases hb; have := hat k hre; omega
            · rw [muSet_at, if_neg e0] at hb; have := hh.lts i bd k hb hre; omega
          · refine .own _ _ _ _ _ _ (Nat.lt_succ_self _) hge hle (fun bd hb => ?_) Nat.one_pos (fun bd hb _ => ?_)
            · rw [muSet_at, if_pos rfl] at hb; cases hb; exact Nat.le_refl _
            · rw [muSet_at, if_pos rfl] at hb; cases hb
              exact ⟨fun _ => rfl, by simp, rfl⟩
        · cases hk
      · cases hk
    · rename_i e he1 he2
      rw [he1] at htd1; rw [he2] at htd2
      have := tdOf_slice htd1; subst this
      have hds : d2 = .string := by cases d2 <;> simp [tdOf] at htd2 <;> rfl
      subst hds
      split at hk
      · rename_i ye hye
        obtain ⟨d3, hd3, htd3, _⟩ := hT.und e ye hye
        split at hk
        · rename_i hi8
          have h8 : d3 = .int .u8 := by rw [hi8] at htd3; cases d3 <;> simp [tdOf] at htd3; rw [htd3]
          subst h8
          split at hk
          · cases hx; rename_i hx; cases hx
            refine ⟨_, h, μ, w, _, hk, hh, .refl _ _ _ hh.hi, Nat.le_refl _, ?_, .d _ _ (.str [] (by simp))⟩
            rw [run_convert_bytes_string w src dst e none 0 0 hd1 hd3 hd2]
            simp [Conv.bytesToString]; rfl
          · rename_i b ver sz
            split at hk
            · rename_i e' sz' l ver' hget
              cases hc : (Nat.beq sz 1 && Nat.beq sz' 1) with
              | false => rw [hc] at hk; cases hk
              | true =>
                rw [hc, cond_true] at hk
                simp only [Bool.and_eq_true] at hc
                have c2 := Nat.eq_of_beq_eq_true hc.1
                have c3 := Nat.eq_of_beq_eq_true hc.2
                obtain ⟨bs, c1, rfl, hbs, hk⟩ := hk
                subst c1 c2 c3
                have ho := hh.obj b
                rw [hget] at ho
                obtain ⟨bd, C, hb, hver, hv0, hat, hsz, hlen, hr⟩ := ho
                cases hx with
                | own _ _ _ m a c hbn hn hcm hvv h00 ha =>
                obtain ⟨ha1, ha2, ha3⟩ := ha bd hb hver
                have hm : m = bs.length := by simp at hlen; omega
                subst hm
                refine ⟨_, h, μ, w, _, hk, hh, .refl _ _ _ hh.hi, Nat.le_refl _, ?_, .d _ _ (.str bs hbs)⟩
                rcases Nat.eq_zero_or_pos c with hcz | hcz
                · have hb0 : bs = [] := List.length_eq_zero_iff.1 (by omega)
                  subst hb0
                  cases a with
                  | none =>
                    rw [run_convert_bytes_string w src dst e none _ c hd1 hd3 hd2]
                    rfl
                  | some a => exact run_convert_bytes_back w src dst e a c [] hd1 hd3 hd2 (fun j hj => absurd hj (Nat.not_lt_zero j))
                obtain ⟨fz, hg, hfz⟩ := hat fun _ => Nat.lt_of_lt_of_le (Nat.mul_pos hcz hv0.2) ha2
                obtain rfl := ha1 hcz
                refine run_convert_bytes_back w src dst e _ c bs hd1 hd3 hd2 (fun j hj => ?_)
                rw [cell_at hg]
                obtain ⟨_, v, hv, hd⟩ := hr.cell j (byteD bs[j]) 0 (byteD bs[j]) (by simp [hj]) rfl
                cases hd
                simpa using hv
            · cases hk
          · cases hk
        · cases hk
      · cases hk
    · obtain ⟨r, z, h1, h2, h3⟩ := aconv_sound hT hk hx
      exact ⟨z, h, μ, w, r, h1, hh, .refl _ _ _ hh.hi, Nat.le_refl _, h2, h3⟩
  · cases hk
end

/-! ### A row that is made: one's own, or given away at once -/
theorem own_list {h : Heap} {μ : Mu} {w : World} (hh : HRel h μ w) {b ver sz : Nat} {e : TypeId} {l : List D} (hget : h.get b = .row e sz l ver) {v : Value} (hv : ARel h.nx μ w (.own b ver sz) v) :
    ARel (h.set b .gone).nx (muSet μ b none) w (.d (.list sz l)) v := by
  obtain ⟨_, hext⟩ := hh.drop b
  have ho := hh.obj b
  rw [hget] at ho
  obtain ⟨bd, C, hb, hver, hv0, hat, hsz, hlen, hr⟩ := ho
  cases hv with
  | own _ _ _ m a c hbn hn hcm hvv h00 ha =>
  obtain ⟨ha1, ha2, ha3⟩ := ha bd hb hver
  have hml : m = l.length := by omega
  subst hml
  refine .d _ _ ?_
  cases hl : l with
  | nil => subst hl; exact .empty sz _ _ hcm
  | cons x0 r0 =>
    rw [← hl]
    have hc0 : 0 < c := by rw [hl] at hn; simp at hn; omega
    have hre : bd.real := fun _ => Nat.lt_of_lt_of_le (Nat.mul_pos hc0 hv0.2) ha2
    obtain ⟨fz, hg, hfz⟩ := hat hre
    have hok : okOf (muSet μ b none) bd.blk := by
      refine ⟨hh.outs b bd _ hb (Bind.has_blk hre), fun i bd' hi hre' => ?_⟩
      rw [muSet_at] at hi
      by_cases hib : i = b
      · rw [if_pos hib] at hi; cases hi
      · rw [if_neg hib] at hi
        exact hib (hh.inj i b bd' bd _ hi hb hre' (Bind.has_blk hre))
    have ha1 := ha1 hc0
    subst ha1
    refine .list sz l _ c (fun i j => (C[i * sz + j]?).getD default) hn hcm (fun i x j u h1 h2 => hok) hr.len (fun i x j u h1 h2 => (hr.cell i x j u h1 h2).1) (fun i x j u h1 h2 => ?_) (fun i x j u h1 h2 => ?_)
    · obtain ⟨_, q, hq, _⟩ := hr.cell i x j u h1 h2
      rw [cell_at hg, Nat.zero_add, hq]; rfl
    · obtain ⟨_, q, hq, hd⟩ := hr.cell i x j u h1 h2
      rw [hq]; exact hd.keep hext.keeps

theorem drop_sub {h : Heap} {μ : Mu} {w : World} (hh : HRel h μ w) {b : Nat} {bd : Bind} (hb : μ b = some bd) {k : Nat} (hk : bd.has k) : okOf (muSet μ b none) k := by
  refine ⟨hh.outs b bd _ hb hk, fun i bd' hi hre' => ?_⟩
  rw [muSet_at] at hi
  by_cases hib : i = b
  · rw [if_pos hib] at hi; cases hi
  · rw [if_neg hib] at hi
    exact hib (hh.inj i b bd' bd _ hi hb hre' hk)
theorem SubOk.data {μ : Mu} {w : World} {e2 : TypeId} {sz2 : Nat} {l : List D} {v : Value} {own ok : Nat → Prop} (hs : SubOk μ w e2 sz2 l v own) (ho : ∀ k, own k → ok k) (hd : ∀ k, okOf μ k → ok k) : DRel ok w (.list sz2 l) v := by
  obtain ⟨base, c, rfl, h2, h3, h4⟩ := hs
  cases hl : l with
  | nil => exact .empty sz2 _ _ h3
  | cons x0 r0 =>
    rw [← hl]
    have hc0 : 0 < c := by rw [hl] at h2; simp at h2; omega
    obtain ⟨k, C, rfl, g2, ⟨fz, g3, _⟩, g4, g5⟩ := h4 hc0
    refine .list sz2 l _ c (fun i j => (C[i * sz2 + j]?).getD default) h2 h3 (fun i x j u h1 h2 => ho k g2) g5.len (fun i x j u h1 h2 => (g5.cell i x j u h1 h2).1) (fun i x j u h1 h2 => ?_) (fun i x j u h1 h2 => ?_)
    · obtain ⟨_, q, hq, _⟩ := g5.cell i x j u h1 h2
      rw [cell_at g3, Nat.zero_add, hq]; rfl
    · obtain ⟨_, q, hq, hd2⟩ := g5.cell i x j u h1 h2
      rw [hq]; exact hd2.keep ⟨fun k _ h => hd k h, fun _ _ _ => rfl⟩
def lists (sz2 : Nat) (ll : List (List D)) : List D := ll.map fun l => .list sz2 l
theorem nest_list {h : Heap} {μ : Mu} {w : World} (hh : HRel h μ w) {b ver sz : Nat} (hsz1 : sz = 1) {e e2 : TypeId} {sz2 : Nat} {ll : List (List D)} (hget : h.get b = .nest e e2 sz2 ll ver none) {v : Value} (hv : ARel h.nx μ w (.own b ver sz) v) :
    ARel (h.set b .gone).nx (muSet μ b none) w (.d (.list sz (lists sz2 ll))) v := by
  subst hsz1
  obtain ⟨_, hext⟩ := hh.drop b
  have ho := hh.obj b
  rw [hget] at ho
  obtain ⟨bd, C, S, hb, hver, hv0, hat, hsz, hlen, hle, hs1, hs2, hs3, hr⟩ := ho
  cases hv with
  | own _ _ _ m a c hbn hn hcm hvv h00 ha =>
  obtain ⟨ha1, ha2, ha3⟩ := ha bd hb hver
  have hml : m = (lists 1 ll).length := by simp [lists]; omega
  have hml2 : (lists sz2 ll).length = m := by simp [lists]; omega
  rw [← hml2] at hn ⊢
  refine .d _ _ ?_
  cases hl : ll with
  | nil => exact .empty 1 _ _ hcm
  | cons x0 r0 =>
    rw [← hl]
    have hc0 : 0 < c := by rw [hl] at hn; simp [lists] at hn; omega
    have hre : bd.real := fun _ => Nat.lt_of_lt_of_le (by omega) ha2
    obtain ⟨fz, hg, hfz⟩ := hat hre
    have ha1 := ha1 hc0
    subst ha1
    have at_ : ∀ (i : Nat) (x : D), (lists sz2 ll)[i]? = some x → ∃ l v, x = .list sz2 l ∧ C[i]? = some v ∧ SubOk μ w e2 sz2 l v (S i) := by
      intro i x hx
      rw [lists, List.getElem?_map, Option.map_eq_some_iff] at hx
      obtain ⟨l, hl, rfl⟩ := hx
      obtain ⟨v, g1, g2⟩ := hr i l hl
      exact ⟨l, v, rfl, g1, g2⟩
    have cell : ∀ (i : Nat) (x : D) (j : Nat) (u : D), (lists sz2 ll)[i]? = some x → (D.cells x)[j]? = some u → j = 0 ∧ u = x := by
      intro i x j u h1 h2
      obtain ⟨l, v, rfl, _, _⟩ := at_ i x h1
      cases j with
      | zero => simp [D.cells] at h2; exact ⟨rfl, h2.symm⟩
      | succ j => simp [D.cells] at h2
    refine .list 1 _ _ c (fun i _ => (C[i]?).getD default) hn hcm (fun i x j u h1 h2 => drop_sub hh hb (Bind.has_blk hre)) (fun i x h1 => ?_) (fun i x j u h1 h2 => ?_) (fun i x j u h1 h2 => ?_) (fun i x j u h1 h2 => ?_)
    · obtain ⟨l, v, rfl, _, _⟩ := at_ i x h1; rfl
    · obtain ⟨rfl, rfl⟩ := cell i x j u h1 h2
      obtain ⟨l, v, rfl, _, _⟩ := at_ i _ h1; rfl
    · obtain ⟨rfl, rfl⟩ := cell i x j u h1 h2
      obtain ⟨l, v, rfl, hv, _⟩ := at_ i _ h1
      rw [cell_at hg, Nat.zero_add, Nat.mul_one, Nat.add_zero, hv]; rfl
    · obtain ⟨rfl, rfl⟩ := cell i x j u h1 h2
      obtain ⟨l, v, rfl, hv, hs⟩ := at_ i _ h1
      rw [hv]
      exact hs.data (fun k hk => drop_sub hh hb (.inr (hs1 i k hk))) fun k hk => ⟨hk.1, fun i' bd' hi' => by
        rw [muSet_at] at hi'
        split at hi'
        · cases hi'
        · exact hk.2 i' bd' hi'⟩

/-- A choice. -/
inductive Own2 (a b : Prop) : Prop where
  | own (h : a) : Own2 a b
  | data (h : b) : Own2 a b
def own2 (x : AV) (h : Heap) (K : AV → Heap → Prop) : Prop :=
  match x with
  | .own b ver sz => match h.get b with
    | .row _ sz' l ver' => match l with
      | [] => K (.own b ver sz) h
      | _ => Own2 (K (.own b ver sz) h) ((ver = ver' ∧ sz = sz') ∧ K (.d (.list sz l)) (h.set b .gone))
    | _ => K (.own b ver sz) h
  | x => K x h
theorem own2_sound {n : Nat} {x : AV} {h : Heap} {μ μ' : Mu} {w w' : World} {K : AV → Heap → Prop} (hk : own2 x h K) (hh : HRel h μ' w') (he : Ext n μ w μ' w') (hn : n ≤ h.nx) {r : Value} (hx : ARel h.nx μ' w' x r) :
    ∃ x2 h2 μ2, K x2 h2 ∧ HRel h2 μ2 w' ∧ Ext n μ w μ2 w' ∧ n ≤ h2.nx ∧ ARel h2.nx μ2 w' x2 r := by
  unfold own2 at hk
  split at hk
  · rename_i b ver sz
    split at hk
    · rename_i e sz' l ver' hget
      split at hk
      · exact ⟨_, h, μ', hk, hh, he, hn, hx⟩
      · rcases hk with hk | ⟨⟨rfl, rfl⟩, hk⟩
        · exact ⟨_, h, μ', hk, hh, he, hn, hx⟩
        · obtain ⟨h1, h2⟩ := hh.drop b
          exact ⟨_, _, _, hk, h1, he.trans hn h2, hn, own_list hh hget hx⟩
    · exact ⟨_, h, μ', hk, hh, he, hn, hx⟩
  · exact ⟨_, h, μ', hk, hh, he, hn, hx⟩
end Go.Pm
end
section
/- One operation that calls no Go function: what it does to the abstract state. -/
namespace Go.Pm

def aop (T : Tab) (s : St) (op : Op) (K : AV → Heap → Prop) : Prop :=
  match op with
  | .alloc t => aalloc T s.hp t K
  | .box t v => abox s.hp t (ev s v) K
  | .build t parts => abuild T t (parts.toList.map fun p => (p.1, ev s p.2)) fun x => K x s.hp
  | .buildSlice t len parts => abuildSlice T s.hp t len (parts.toList.map fun p => (p.1, ev s p.2)) fun x h => own2 x h K
  | .makeSlice t l c => amakeSlice T s.hp t (ev s l) (ev s c) K
  | .store t a x => astore T s.hp t (ev s a) (ev s x) K
  | .makeMap t r => amakeMap T s.hp t (r.map (ev s)) K
  | .mapUpdate t m k x => amapUpdate T s.hp t (ev s m) (ev s k) (ev s x) K
  | .insert t m k x => amapUpdate T s.hp t (ev s m) (ev s k) (ev s x) K
  | .lookup t x i ok => alookup T s.hp t (ev s x) (ev s i) ok fun x => K x s.hp
  | .range t x => arange T s.hp t (ev s x) K
  | .next it b => anext s.hp (ev s it) b K
  | .entry it => aentry s.hp (ev s it) K
  | .convert src dst x => aconvM T s.hp src dst (ev s x) K
  | .call c => match c.callee with
    | .builtin .append => match c.argTypes.toList, c.args.toList with
      | [t, tx], [x, y] => aappend T s.hp t tx (ev s x) (ev s y) K
      | _, _ => False
    | _ => apure T s op fun x => K x s.hp
  | _ => apure T s op fun x => K x s.hp

section
variable {P : Program} {T : Tab} (hT : TabOk P T) {μ : Mu} {w : World}

include hT in
theorem aop_sound {N : Nat} {s : St} {a : Act} (hs : SRel N s μ a w) (o : Oper) {K : AV → Heap → Prop} (hk : aop T s o.op K) : HOut s.hp.nx μ w ((execOp a.eval o).run P w) K := by
  have E : ∀ x, ARel s.hp.nx μ w (ev s x) (a.eval x) := fun x => ev_rel hs x
  have lift : ∀ (m : Sem Value), execOp a.eval o = (do pure (.value (← m))) → (∃ x h' μ' w' r, K x h' ∧ HRel h' μ' w' ∧ Ext s.hp.nx μ w μ' w' ∧ s.hp.nx ≤ h'.nx ∧ m.run P w = .ok r w' ∧ ARel h'.nx μ' w' x r) →
      HOut s.hp.nx μ w ((execOp a.eval o).run P w) K := by
    intro m he ⟨x, h', μ', w', r, h1, h2, h3, h4, h5, h6⟩
    refine ⟨x, h', μ', w', h1, h2, h3, h4, .inl ⟨r, ?_, h6⟩⟩
    rw [he, Sem.run_bind, h5]; rfl
  have liftU : ∀ (m : Sem Unit), execOp a.eval o = (do m; pure .skip) → (∃ h' w', K .junk h' ∧ HRel h' μ w' ∧ Ext s.hp.nx μ w μ w' ∧ s.hp.nx ≤ h'.nx ∧ m.run P w = .ok () w') →
      HOut s.hp.nx μ w ((execOp a.eval o).run P w) K := by
    intro m he ⟨h', w', h1, h2, h3, h4, h5⟩
    refine ⟨_, h', μ, w', h1, h2, h3, h4, .inr ⟨?_, rfl⟩⟩
    rw [he, Sem.run_bind, h5]; rfl
  have liftP : ∀ (m : Sem Value), execOp a.eval o = (do pure (.value (← m))) → (∃ r z, K z s.hp ∧ m.run P w = .ok r w ∧ ARel s.hp.nx μ w z r) → HOut s.hp.nx μ w ((execOp a.eval o).run P w) K :=
    fun m he ⟨r, z, h1, h2, h3⟩ => lift m he ⟨z, _, μ, w, r, h1, hs.hp, .refl _ _ _ hs.hp.hi, Nat.le_refl _, h2, h3⟩
  have pur : apure T s o.op (fun x => K x s.hp) → HOut s.hp.nx μ w ((execOp a.eval o).run P w) K := by
    intro hk
    obtain ⟨r, z, h1, h2, h3⟩ := apure_sound hT hs o hk
    exact ⟨z, s.hp, μ, w, h1, hs.hp, .refl _ _ _ hs.hp.hi, Nat.le_refl _, .inl ⟨r, h2, h3⟩⟩
  have parts : ∀ (ps : Array (Nat × Operand)), ∃ vs : List (Nat × Value), (ps.map fun (p : Nat × Operand) => (p.1, a.eval p.2)) = vs.toArray ∧ vs.length = (ps.toList.map fun p => (p.1, ev s p.2)).length ∧
      ∀ (i : Nat) (p : Nat × AV) (q : Nat × Value), (ps.toList.map fun p => (p.1, ev s p.2))[i]? = some p → vs[i]? = some q → q.1 = p.1 ∧ ARel s.hp.nx μ w p.2 q.2 := by
    intro ps
    refine ⟨ps.toList.map fun p => (p.1, a.eval p.2), ?_, by simp, fun i p q h1 h2 => ?_⟩
    · apply Array.ext'; simp
    · rw [List.getElem?_map, Option.map_eq_some_iff] at h1 h2
      obtain ⟨c, hc, rfl⟩ := h1
      obtain ⟨c', hc', rfl⟩ := h2
      rw [hc] at hc'; cases hc'
      exact ⟨rfl, E _⟩
  unfold aop at hk
  split at hk
  · rename_i t ho
    exact lift _ (by simp only [execOp, ho]) (aalloc_sound hT hs.hp hk (.tuple #[]))
  · rename_i t v ho
    exact lift _ (by simp only [execOp, ho]) (abox_sound hs.hp hk (E v))
  · rename_i t ps ho
    obtain ⟨vs, h1, h2, h3⟩ := parts ps
    exact liftP _ (by simp only [execOp, ho]; rw [← h1]) (abuild_sound hT hk vs h2 h3)
  · rename_i t len ps ho
    obtain ⟨vs, h1, h2, h3⟩ := parts ps
    obtain ⟨x, h', μ', w', r, g1, g2, g3, g4, g5, g6⟩ := abuildSlice_sound hT hs.hp hk vs h2 h3
    obtain ⟨x2, h5, μ2, k1, k2, k3, k4, k5⟩ := own2_sound g1 g2 g3 g4 g6
    exact lift _ (by simp only [execOp, ho]; rw [← h1]) ⟨x2, h5, μ2, w', r, k1, k2, k3, k4, g5, k5⟩
  · rename_i t l c ho
    exact lift _ (by simp only [execOp, ho]) (amakeSlice_sound hT hs.hp hk (E l) (E c))
  · rename_i t p x ho
    exact liftU _ (by simp only [execOp, ho]) (astore_sound hT hs.hp hk (E p) (E x))
  · rename_i t r ho
    refine lift _ (by simp only [execOp, ho]; rfl) (amakeMap_sound hT hs.hp hk ?_ ?_)
    · intro c hc; cases r <;> simp at hc; subst hc; exact ⟨_, rfl, E _⟩
    · intro hc; cases r <;> simp at hc; rfl
  · rename_i t m k x ho
    exact liftU _ (by simp only [execOp, ho]) (amapUpdate_sound hT hs.hp hk (E m) (E k) (E x))
  · rename_i t m k x ho
    exact liftU _ (by simp only [execOp, ho]) (amapUpdate_sound hT hs.hp hk (E m) (E k) (E x))
  · rename_i t x i ok ho
    exact liftP _ (by simp only [execOp, ho]) (alookup_sound hT hs.hp hk (E x) (E i))
  · rename_i t x ho
    exact lift _ (by simp only [execOp, ho]) (arange_sound hT hs.hp hk (E x))
  · rename_i it b ho
    exact lift _ (by simp only [execOp, ho]; rfl) (anext_sound hs.hp hk (E it))
  · rename_i it ho
    exact lift _ (by simp only [execOp, ho]) (aentry_sound hs.hp hk (E it))
  · rename_i src dst x ho
    exact lift _ (by simp only [execOp, ho]) (aconvM_sound hT hs.hp hk (E x))
  · rename_i c ho
    split at hk
    · rename_i hcal
      split at hk
      · rename_i t tx x y h1 h2
        have h1' : c.argTypes = #[t, tx] := by apply Array.ext'; rw [h1]
        have h2' : c.args = #[x, y] := by apply Array.ext'; rw [h2]
        obtain ⟨z, h', μ', w', r, g1, g2, g3, g4, g5, g6⟩ := aappend_sound hT hs.hp (ty := o.type) hk (E x) (E y)
        refine ⟨z, h', μ', w', g1, g2, g3, g4, .inl ⟨r, ?_, g6⟩⟩
        simp only [execOp, ho, resolve, hcal, Sem.run_bind, Sem.run_pure, Result.andThen_ok, invoke, builtin, h1', h2']
        have : Array.map a.eval #[x, y] = #[a.eval x, a.eval y] := by simp
        rw [this, g5]; rfl
      · cases hk
    · exact pur hk
  · exact pur hk
end
end Go.Pm
end
section
/- Operations upon lists by their length and elements; then one operation, all in all. -/
namespace Go.Pm

/-- Is it a slice of elements of so many cells? -/
def eltIs (T : Tab) (t : TypeId) (sz : Nat) : Bool :=
  match T t with
  | some y => match y.td with
    | .slice e => match T e with
      | some ye => Nat.beq ye.size sz
      | none => false
    | _ => false
  | none => false

/-- A list seen as its elements one by one. -/
def viewT : AV → AV
  | .d (.tab sz n f) => .d (.list sz (tabl n f))
  | x => x
theorem viewT_rel {n : Nat} {μ : Mu} {w : World} {x : AV} {v : Value} (h : ARel n μ w x v) : ARel n μ w (viewT x) v := by
  cases h with
  | d x v h => cases h <;> first | exact .d _ _ (by assumption) | exact .d _ _ (by constructor <;> assumption) | exact .d _ _ (by constructor)
  | _ => (constructor <;> assumption) <;> done

def oint : Option AV → Int → Option Int
  | none, x => some x
  | some (.d (.int _ n)), _ => some n
  | _, _ => none

/-- A part of cells, loaded. -/
def partK (T : Tab) (t : TypeId) (cs : List D) (off : Nat) (K : AV → Prop) : Prop :=
  match T t with
  | some y => cond (isAggT y.td) (cond (Nat.ble (off + y.size) cs.length) (K (.d (.agg ((cs.drop off).take y.size)))) False) (match cs[off]? with
    | some c => K (.d c)
    | none => False)
  | none => False

/-- A struct of data is a datum. -/
def AV.norm (x : AV) (K : AV → Prop) : Prop :=
  match x with
  | .agg cs => match toD1s cs with
    | some ds => K (.d (.agg ds))
    | none => K (.agg cs)
  | x => K x
theorem AV.norm_sound {x : AV} {K : AV → Prop} (h : AV.norm x K) : ∃ y, K y ∧ (x = .junk → y = .junk) ∧ ∀ n μ w v, ARel n μ w x v → ARel n μ w y v := by
  unfold AV.norm at h
  split at h
  · split at h
    · rename_i cs ds hds
      refine ⟨_, h, fun e => (by cases e), fun n μ w v hx => .d _ _ (toD_rel hx (by simp only [toD, hds]))⟩
    · exact ⟨_, h, fun e => (by cases e), fun _ _ _ _ hx => hx⟩
  · exact ⟨_, h, fun e => e, fun _ _ _ _ hx => hx⟩

def bop (T : Tab) (s : St) (op : Op) (K : AV → Heap → Prop) : Prop :=
  match op with
  | .indexAddr t x i => match ev s x, ev s i with
    | .d (.tab sz m f), .d (.int _ n) => cond (eltIs T t sz) ((0 ≤ n ∧ n < m) ∧ K (.rd (f n.toNat).cells) s.hp) False
    | .d (.list sz l), .d (.int _ n) => cond (eltIs T t sz) ((0 ≤ n ∧ n < l.length) ∧ K (.rd (l.getD n.toNat .nilp).cells) s.hp) False
    | _, _ => aop T s op K
  | .slice t x lo hi none => match ev s x with
    | .d (.tab sz m f) => match oint (lo.map (ev s)) 0, oint (hi.map (ev s)) m with
      | some l, some r => cond (eltIs T t sz) ((0 ≤ l ∧ l ≤ r ∧ r ≤ m) ∧ K (.d (.tab sz (r.toNat - l.toNat) fun i => f (l.toNat + i))) s.hp) False
      | _, _ => False
    | _ => aop T s op K
  | .load t x => match ev s x with
    | .rptr b ver sz i off => match s.hp.get b with
      | .row _ sz' l ver' => cond (Nat.beq sz sz') (∃ u, (ver = ver' ∧ l[i]? = some u) ∧ partK T t u.cells off fun x => K x s.hp) False
      | .nest _ _ _ _ _ _ => aload T s.hp t (.rptr b ver sz i off) fun z => K z s.hp
      | _ => False
    | _ => aop T s (.load t x) fun z h => AV.norm z fun z => K z h
  | .binOp o t x y ty => match ev s x, ev s y with
    | .d (.tab _ m _), .d .nils => match T t with
      | some yt => match yt.td with
        | .slice _ => 0 < m ∧ abinNil o false fun x => K x s.hp
        | _ => False
      | none => False
    | _, _ => aop T s (.binOp o t x y ty) K
  | .call c => match c.callee with
    | .builtin .append => match c.argTypes.toList, c.args.toList with
      | [t, tx], [x, y] => aappend T s.hp t tx (ev s x) (viewT (ev s y)) K
      | _, _ => False
    | .builtin .len => match c.argTypes.toList, c.args.toList with
      | t :: _, x :: _ => match ev s x with
        | .d (.tab sz m _) => cond (eltIs T t sz) (m ≤ 9223372036854775807 → K (.d (.int .i64 m)) s.hp) False
        | _ => aop T s op K
      | _, _ => False
    | _ => aop T s op K
  | _ => aop T s op K

section
variable {P : Program} {T : Tab} (hT : TabOk P T) {μ : Mu} {w : World}

theorem eltIs_sound {t : TypeId} {sz : Nat} (h : eltIs T t sz = true) : ∃ y e ye, T t = some y ∧ y.td = .slice e ∧ T e = some ye ∧ Nat.beq ye.size sz = true := by
  unfold eltIs at h
  split at h
  · rename_i y hy
    split at h
    · rename_i e he
      split at h
      · rename_i ye hye; exact ⟨y, e, ye, hy, he, hye, h⟩
      · cases h
    · cases h
  · cases h

theorem tabl_getD (n : Nat) (f : Nat → D) (i : Nat) (d : D) (h : i < n) : (tabl n f).getD i d = f i := by
  rw [List.getD_eq_getElem?_getD, tabl_get n f i h]; rfl

theorem tabl_part (m : Nat) (f : Nat → D) (l r : Nat) (hr : r ≤ m) : ((tabl m f).take r).drop l = tabl (r - l) fun i => f (l + i) := by
  apply List.ext_getElem?
  intro i
  rw [List.getElem?_drop, List.getElem?_take]
  by_cases h : l + i < r
  · rw [if_pos h, tabl_get _ _ _ (by omega), tabl_get _ _ _ (by omega)]
  · rw [if_neg h, List.getElem?_eq_none (by rw [tabl_length]; omega)]

theorem oint_cases {L : Option AV} {d l : Int} (h : oint L d = some l) : (L = none ∧ l = d) ∨ ∃ k, L = some (.d (.int k l)) := by
  unfold oint at h
  split at h
  · cases h; exact .inl ⟨rfl, rfl⟩
  · cases h; exact .inr ⟨_, rfl⟩
  · cases h

theorem aslice_tab {t : TypeId} {sz m : Nat} {f : Nat → D} {L H : Option AV} {l r : Int} (he : eltIs T t sz = true) (hl : oint L 0 = some l) (hr : oint H m = some r) (h0 : 0 ≤ l) (h1 : l ≤ r) (h2 : r ≤ m) :
    aslice T t (.d (.list sz (tabl m f))) L H fun z => z = .d (.list sz (tabl (r.toNat - l.toNat) fun i => f (l.toNat + i))) := by
  obtain ⟨y, e, ye, e1, e2, e3, e4⟩ := eltIs_sound he
  have hp := tabl_part m f l.toNat r.toNat (by omega)
  rcases oint_cases hl with ⟨rfl, rfl⟩ | ⟨k1, rfl⟩ <;> rcases oint_cases hr with ⟨rfl, rfl⟩ | ⟨k2, rfl⟩ <;> simp only [aslice, e1, e2, e3, e4, cond_true]
  · simp
  · refine ⟨by rw [tabl_length]; omega, ?_⟩
    simp only [Int.toNat_zero, List.drop_zero] at hp
    rw [hp]; rfl
  · refine ⟨by rw [tabl_length]; omega, ?_⟩
    rw [← hp, Int.toNat_natCast, List.take_of_length_le (by rw [tabl_length]; exact Nat.le_refl _)]
  · exact ⟨by rw [tabl_length]; omega, by rw [hp]⟩

include hT in
theorem bop_sound {N : Nat} {s : St} {a : Act} (hs : SRel N s μ a w) (o : Oper) {K : AV → Heap → Prop} (hk : bop T s o.op K) : HOut s.hp.nx μ w ((execOp a.eval o).run P w) K := by
  have E : ∀ x, ARel s.hp.nx μ w (ev s x) (a.eval x) := fun x => ev_rel hs x
  have liftP : ∀ (m : Sem Value), execOp a.eval o = (do pure (.value (← m))) → (∃ r z, K z s.hp ∧ m.run P w = .ok r w ∧ ARel s.hp.nx μ w z r) → HOut s.hp.nx μ w ((execOp a.eval o).run P w) K := by
    intro m he ⟨r, z, h1, h2, h3⟩
    refine ⟨z, s.hp, μ, w, h1, hs.hp, .refl _ _ _ hs.hp.hi, Nat.le_refl _, .inl ⟨r, ?_, h3⟩⟩
    rw [he, Sem.run_bind, h2]; rfl
  have idx : ∀ (t : TypeId) (x i : Operand) (sz : Nat) (l : List D) (k : IntKind) (n : Int), o.op = .indexAddr t x i → ARel s.hp.nx μ w (.d (.list sz l)) (a.eval x) → ev s i = .d (.int k n) → eltIs T t sz = true → (0 ≤ n ∧ n < l.length) → K (.rd (l.getD n.toNat .nilp).cells) s.hp →
      HOut s.hp.nx μ w ((execOp a.eval o).run P w) K := by
    intro t x i sz l k n ho hx hi he hn hK
    obtain ⟨y, e, ye, h1, h2, h3, h4⟩ := eltIs_sound he
    have hi' := E i
    rw [hi] at hi'
    refine liftP (Instr.indexAt t (a.eval x) (a.eval i)) (by simp only [execOp, ho]) (aindexAddr_sound hT hs.hp (K := fun z => K z s.hp) ?_ hx hi')
    simp only [aindexAddr, h1, h2, h3, h4, cond_true]
    refine ⟨hn, fun u hu => ?_⟩
    rw [List.getD_eq_getElem?_getD, hu] at hK; exact hK
  unfold bop at hk
  split at hk
  · rename_i t x i ho
    split at hk
    · rename_i sz m f k n hx hi
      cases he : eltIs T t sz with
      | false => rw [he] at hk; cases hk
      | true =>
        rw [he, cond_true] at hk
        have hx' := viewT_rel (E x)
        rw [hx] at hx'
        refine idx t x i sz (tabl m f) k n ho hx' hi he (by rw [tabl_length]; exact hk.1) ?_
        rw [tabl_getD _ _ _ _ (by omega)]; exact hk.2
    · rename_i sz l k n hx hi
      cases he : eltIs T t sz with
      | false => rw [he] at hk; cases hk
      | true =>
        rw [he, cond_true] at hk
        have hx' := E x
        rw [hx] at hx'
        exact idx t x i sz l k n ho hx' hi he hk.1 hk.2
    · exact aop_sound hT hs o hk
  · rename_i t x lo hi ho
    split at hk
    · rename_i sz m f hx
      split at hk
      · rename_i l r hl hr
        cases he : eltIs T t sz with
        | false => rw [he] at hk; cases hk
        | true =>
          rw [he, cond_true] at hk
          obtain ⟨⟨h0, h1, h2⟩, hK⟩ := hk
          obtain ⟨y, e, ye, e1, e2, e3, e4⟩ := eltIs_sound he
          have hx' := viewT_rel (E x)
          rw [hx] at hx'
          obtain ⟨rv, z, rfl, g2, g3⟩ := aslice_sound hT (aslice_tab (T := T) he hl hr h0 h1 h2) hx' (lv := lo.map a.eval) (hv := hi.map a.eval)
            (fun c hc => by cases lo <;> simp at hc; subst hc; exact ⟨_, rfl, E _⟩) (fun hc => by cases lo <;> simp at hc; rfl)
            (fun c hc => by cases hi <;> simp at hc; subst hc; exact ⟨_, rfl, E _⟩) (fun hc => by cases hi <;> simp at hc; rfl)
          refine liftP (Instr.sliceAt t (a.eval x) (lo.map a.eval) (hi.map a.eval) none) (by simp only [execOp, ho]; rfl) ⟨rv, _, hK, g2, ?_⟩
          cases g3; rename_i g3
          exact .d _ _ (.tab _ _ _ _ g3)
      · cases hk
    · exact aop_sound hT hs o hk
  · rename_i t x ho
    split at hk
    · rename_i b ver sz i off hx
      split at hk
      · rename_i e sz' l ver' hget
        cases hc : Nat.beq sz sz' with
        | false => rw [hc] at hk; cases hk
        | true =>
          rw [hc, cond_true] at hk
          obtain ⟨u0, ⟨hve, hu0⟩, hk⟩ := hk
          have hi : i < l.length := (List.getElem?_eq_some_iff.1 hu0).1
          have hx' := E x
          rw [hx] at hx'
          refine liftP (Instr.loadAt t (a.eval x)) (by simp only [execOp, ho]) (aload_sound hT hs.hp (K := fun z => K z s.hp) ?_ hx')
          unfold partK at hk
          unfold aload
          split at hk
          · rename_i y hy
            simp only [hget, hc, cond_true, hy]
            refine ⟨⟨hve, hi⟩, fun u hu => ?_⟩
            rw [hu0] at hu; cases hu
            exact hk
          · cases hk
      · have hx' := E x
        rw [hx] at hx'
        exact liftP (Instr.loadAt t (a.eval x)) (by simp only [execOp, ho]) (aload_sound hT hs.hp (K := fun z => K z s.hp) hk hx')
      · cases hk
    · obtain ⟨x', h', μ', w', h1, h2, h3, h4, h5⟩ := aop_sound hT hs o (K := fun z h => AV.norm z fun z => K z h) (by rw [ho]; exact hk)
      obtain ⟨y, g1, g2, g3⟩ := AV.norm_sound h1
      refine ⟨y, h', μ', w', g1, h2, h3, h4, ?_⟩
      rcases h5 with ⟨r, h5, h6⟩ | ⟨h5, h6⟩
      · exact .inl ⟨r, h5, g3 _ _ _ _ h6⟩
      · exact .inr ⟨h5, g2 h6⟩
  · rename_i op t x y ty ho
    split at hk
    · rename_i sz m f hx hy
      split at hk
      · rename_i yt hyt
        split at hk
        · rename_i e he
          obtain ⟨hm, hk⟩ := hk
          have hx' := viewT_rel (E x)
          rw [hx] at hx'
          have hy' := E y
          rw [hy] at hy'
          have hab : abin T op t false (.d (.list sz (tabl m f))) (.d .nils) fun z => K z s.hp := by
            have hne : tabl m f ≠ [] := by
              intro h0
              have := tabl_length m f
              rw [h0] at this; simp at this; omega
            unfold abin
            simp only [hyt, nilish, he]
            cases ht : tabl m f with
            | nil => exact absurd ht hne
            | cons p q => simpa [nilK] using hk
          exact liftP (do eqGuard op t x y (a.eval x) (a.eval y); binOp op t (a.eval x) (a.eval y)) (by simp only [execOp, ho]) (abin_sound hT hab hx' hy' x y (fun h => by cases h))
        · cases hk
      · cases hk
    · exact aop_sound hT hs o (by rw [ho]; exact hk)
  · rename_i c ho
    split at hk
    · rename_i hcal
      split at hk
      · rename_i t tx x y h1 h2
        have h1' : c.argTypes = #[t, tx] := by apply Array.ext'; rw [h1]
        have h2' : c.args = #[x, y] := by apply Array.ext'; rw [h2]
        obtain ⟨z, h', μ', w', r, g1, g2, g3, g4, g5, g6⟩ := aappend_sound hT hs.hp (ty := o.type) hk (E x) (viewT_rel (E y))
        refine ⟨z, h', μ', w', g1, g2, g3, g4, .inl ⟨r, ?_, g6⟩⟩
        simp only [execOp, ho, resolve, hcal, Sem.run_bind, Sem.run_pure, Result.andThen_ok, invoke, builtin, h1', h2']
        have : Array.map a.eval #[x, y] = #[a.eval x, a.eval y] := by simp
        rw [this, g5]; rfl
      · cases hk
    · rename_i hcal
      split at hk
      · rename_i t ts x xs h1 h2
        have h1' : c.argTypes = (t :: ts).toArray := by rw [← h1]
        have h2' : c.args = (x :: xs).toArray := by rw [← h2]
        split at hk
        · rename_i sz m f hx
          cases he : eltIs T t sz with
          | false => rw [he] at hk; cases hk
          | true =>
            rw [he, cond_true] at hk
            obtain ⟨y, e, ye, e1, e2, e3, e4⟩ := eltIs_sound he
            have hx' := viewT_rel (E x)
            rw [hx] at hx'
            have hal : alen T s.hp t (.d (.list sz (tabl m f))) fun z => K z s.hp := by
              simp only [alen, e1, e2, tabl_length]; exact hk
            obtain ⟨r, z, h3, h4, h5⟩ := alen_sound hT hs.hp hal hx' o.type ts (xs.map a.eval)
            refine ⟨z, s.hp, μ, w, h3, hs.hp, .refl _ _ _ hs.hp.hi, Nat.le_refl _, .inl ⟨r, ?_, h5⟩⟩
            simp only [execOp, ho, resolve, hcal, Sem.run_bind, Sem.run_pure, Result.andThen_ok, invoke, builtin, h1', h2']
            have : Array.map a.eval (x :: xs).toArray = (a.eval x :: xs.map a.eval).toArray := by simp
            rw [this, h4]; rfl
        · exact aop_sound hT hs o hk
      · cases hk
    · exact aop_sound hT hs o hk
  · exact aop_sound hT hs o hk
end
end Go.Pm
end
section
/- Calls, guards, regions. -/
namespace Go.Pm

def FW : Option Nat → Fence
  | none => Fence.wide
  | some k => Fence.wide.inRound k

/-- The round that runs. -/
def RndRel (n : Nat) (μ : Mu) : Option Nat → Option Nat → Prop
  | none, none => True
  | some l, some k => l < n ∧ ∀ bd, μ l = some bd → bd.ver = 0 → k = bd.blk
  | _, _ => False

theorem RndRel.ext {n n' : Nat} {μ μ' : Mu} {w w' : World} (h : Ext n μ w μ' w') (hn : n ≤ n') {l k : Option Nat} (hr : RndRel n μ l k) : RndRel n' μ' l k := by
  cases l <;> cases k <;> simp only [RndRel] at hr ⊢
  obtain ⟨h1, h2⟩ := hr
  refine ⟨by omega, fun bd' hb' h0 => ?_⟩
  obtain ⟨bd, hbd, ⟨_, rfl⟩ | ⟨h3, _⟩⟩ := h.old _ bd' h1 hb'
  · exact h2 bd hbd h0
  · omega

def Aimed (h : Heap) (μ : Mu) (w : World) (K : AV → Heap → Prop) (e : Ending) (w' : World) : Prop :=
  ∃ r h' μ' v, e = .returned v ∧ K r h' ∧ HRel h' μ' w' ∧ Ext h.nx μ w μ' w' ∧ h.nx ≤ h'.nx ∧ ARel h'.nx μ' w' r v

def PlainFn (P : Program) (f : FuncId) : Prop := ∃ fn, P.funcs[f]? = some fn ∧ (fn.name == "runtime.NumGoroutine") = false ∧ fn.body.isNone = false

/-- A call, by its abstract arguments, from any world in which they and the heap stand. -/
structure ACall (P : Program) (f : FuncId) (args : List AV) (h : Heap) (K : AV → Heap → Prop) : Prop where
  go : ∀ (μ : Mu) (w : World) (vs : List Value), HRel h μ w → vs.length = args.length → (∀ (i : Nat) (c : AV) (v : Value), args[i]? = some c → vs[i]? = some v → ARel h.nx μ w c v) →
    (PlainFn P f ∧ Calls P f vs.toArray w (Aimed h μ w K)) ∨ ∃ v w', (callFunc f vs.toArray).run P w = .ok (.value v) w' ∧ Aimed h μ w K (.returned v) w'

theorem ACall.mono {P : Program} {f : FuncId} {args : List AV} {h : Heap} {K K' : AV → Heap → Prop} (hk : ACall P f args h K) (hq : ∀ x h', K x h' → K' x h') : ACall P f args h K' := by
  refine ⟨fun μ w vs h1 h2 h3 => ?_⟩
  have hm : ∀ e w', Aimed h μ w K e w' → Aimed h μ w K' e w' := fun e w' ⟨r, h', μ', v, he, hK, hr⟩ => ⟨r, h', μ', v, he, hq _ _ hK, hr⟩
  rcases hk.go μ w vs h1 h2 h3 with ⟨hp, hc⟩ | ⟨v, w', hc, ha⟩
  · exact .inl ⟨hp, hc.mono hm⟩
  · exact .inr ⟨v, w', hc, hm _ _ ha⟩

/-- A call of yield: a round of the loop. -/
structure AYield (P : Program) (l : Nat) (args : List AV) (h : Heap) (K : AV → Heap → Prop) : Prop where
  go : ∀ (μ : Mu) (w : World) (vs : List Value) (rk : Option Nat) (k : Nat), HRel h μ w → vs.length = args.length → (∀ (i : Nat) (c : AV) (v : Value), args[i]? = some c → vs[i]? = some v → ARel h.nx μ w c v) →
    (∀ bd, μ l = some bd → bd.ver = 0 → k = bd.blk) →
    ∃ f tmps assign body, (Instr.yield k vs.toArray).run P w = .ok (.round k f tmps assign body) w ∧ RoundIn (FW rk) (0 - 1) P k f tmps assign body w (Aimed h μ w K)

/-! ### One operation -/
def unP (c : Bool) (x : AV) (K : AV → Prop) : Prop :=
  match x with
  | .cnd r y _ => (c = true → r = true) ∧ K y
  | x => K x
def unA (x : AV) (K : AV → Prop) : Prop :=
  match x with
  | .cnd r y _ => r = true ∧ K y
  | x => K x

def apick (c x y : AV) (K : AV → Prop) : Prop :=
  unA c fun c => match c with
    | .tt => unA x K
    | .ff => unA y K
    | .d (.bool b) => unP b x fun x => unP (!b) y fun y => match asB x, asB y with
      | some p, some q => K (.d (.bool (cond b p q)))
      | _, _ => K (.cnd b x y)
    | _ => False

/-- Operands that stand only where a guard let them, where it did. -/
def ares : List Operand → St → (St → Prop) → Prop
  | [], s, K => K s
  | x :: r, ⟨tm, hp, rnd, df⟩, K => match x with
    | .tmp t => match look tm t with
      | .cnd c y _ => c = true ∧ ares r ⟨(t, y) :: tm, hp, rnd, df⟩ K
      | _ => ares r ⟨tm, hp, rnd, df⟩ K
    | _ => ares r ⟨tm, hp, rnd, df⟩ K

def aval (P : Program) (T : Tab) (op : Op) (s : St) (K : AV → Heap → Prop) : Prop :=
  match op with
  | .pick c x y => apick (ev s c) (ev s x) (ev s y) fun z => K z s.hp
  | .call c => ares op.operands.toList s fun s => match c.callee with
    | .value f => match ev s f with
      | .d (.fn g) => forceL (c.args.toList.map (ev s)) fun as => ACall P g as s.hp K
      | .fn g caps => forceL (c.args.toList.map (ev s) ++ caps) fun as => ACall P g as s.hp K
      | .yld l => forceL (c.args.toList.map (ev s)) fun as => AYield P l as s.hp K
      | _ => False
    | _ => bop T s (.call c) K
  | op => ares op.operands.toList s fun s => bop T s op K

def afin (N : Nat) : St → Option Tmp → AV → Heap → (St → Prop) → Prop
  | ⟨tm, _, rnd, df⟩, dst, x, ⟨log, nx⟩, K => match dst with
    | some d => cond (Nat.blt d N) (AV.force x fun y => K ⟨(d, y) :: tm, ⟨log, nx⟩, rnd, df⟩) False
    | none => K ⟨tm, ⟨log, nx⟩, rnd, df⟩

def gdec : AV → Bool → Option Bool
  | .tt, w => some w
  | .ff, w => some (!w)
  | .tup [], _ => some false
  | _, _ => none
def grun : AV → Bool → Option Bool
  | .tt, w => some w
  | .ff, w => some (!w)
  | .tup [], _ => some false
  | .d (.bool c), true => some c
  | .d (.bool c), false => some (!c)
  | .cnd c y z, w => match grun y w, grun z w with
    | some p, some q => some (cond c p q)
    | _, _ => none
  | _, _ => none

def vb : Value → Option Bool
  | .bool b => some b
  | _ => none

/-- A guard that is decided. -/
def decV (x : AV) (w r : Bool) : AV :=
  match r with
  | true => cond w .tt .ff
  | false => match x with
    | .d (.bool _) => cond w .ff .tt
    | x => x
def decS : St → Nat → Bool → Bool → St
  | ⟨tm, hp, rnd, df⟩, dj, w, r => ⟨(dj, decV (look tm dj) w r) :: tm, hp, rnd, df⟩
theorem decV_rel {n : Nat} {μ : Mu} {wd : World} {x : AV} {v : Value} {w r : Bool} (hx : ARel n μ wd x v) (h : (vb v == some w) = r) : ARel n μ wd (decV x w r) v := by
  cases r with
  | true =>
    have h := eq_of_beq h
    have : v = .bool w := by cases v <;> simp [vb] at h; rw [h]
    subst this
    cases w
    · exact .ff
    · exact .tt
  | false =>
    simp only [decV]
    split
    · rename_i c
      cases hx; rename_i hx; cases hx
      cases w <;> cases c <;> first | exact .tt | exact .ff | (simp [vb] at h; done)
    · exact hx

def aone (P : Program) (T : Tab) (N : Nat) (ops : List Oper) (o : Oper) (s : St) (K : St → Prop) : Prop :=
  match o.guard with
  | none => aval P T o.op s fun z h => afin N s o.dst z h K
  | some (j, w) => match ops[j]? with
    | some oj => match oj.dst with
      | some dj => match gdec (look s.tm dj) w with
        | some true => aval P T o.op s fun z h => afin N s o.dst z h K
        | some false => afin N s o.dst (.tup []) s.hp K
        | none => match grun (look s.tm dj) w with
          | some r => (∃ y, (r = true → aval P T o.op s fun z h => z = y ∧ h = s.hp) ∧ AV.force y fun y => afin N s o.dst (.cnd r y (.tup [])) s.hp K) ∨
              ((r = true → aval P T o.op (decS s dj w true) fun z h => afin N (decS s dj w true) o.dst z h K) ∧ (r = false → afin N (decS s dj w false) o.dst (.tup []) s.hp K))
          | none => False
      | none => False
    | none => False

def aops (P : Program) (T : Tab) (N : Nat) (ops : List Oper) : List Oper → St → (St → Prop) → Prop
  | [], s, K => K s
  | o :: r, s, K => aone P T N ops o s fun s => aops P T N ops r s K

section
variable {P : Program} {T : Tab} (hT : TabOk P T)

theorem SRel.slot {N : Nat} {s : St} {μ : Mu} {a : Act} {w : World} (hs : SRel N s μ a w) {t : Nat} {y : AV} (hy : ARel s.hp.nx μ w y (a.tmps.getD t undef)) : SRel N { s with tm := (t, y) :: s.tm } μ a w := by
  refine ⟨fun k => ?_, hs.size, hs.hp, hs.df⟩
  show ARel s.hp.nx μ w (look ((t, y) :: s.tm) k) _
  rw [look_cons]
  split
  · rename_i e; subst e; exact hy
  · exact hs.tm k

theorem ares_sound {N : Nat} {μ : Mu} {a : Act} {w : World} : ∀ (l : List Operand) {s : St} {K : St → Prop}, SRel N s μ a w → ares l s K → ∃ s', K s' ∧ SRel N s' μ a w ∧ s'.hp = s.hp ∧ s'.rnd = s.rnd
  | [], s, K, hs, h => ⟨s, h, hs, rfl, rfl⟩
  | x :: r, s, K, hs, h => by
    unfold ares at h
    split at h
    · rename_i t
      split at h
      · rename_i c y z hl
        obtain ⟨hc, h⟩ := h
        have ht := hs.tm t
        rw [hl] at ht
        cases ht with
        | cnd _ _ _ _ h1 _ => exact ares_sound r (s := { s with tm := (t, y) :: s.tm }) (hs.slot (h1 hc)) h
      · exact ares_sound r hs h
    · exact ares_sound r hs h

theorem unP_sound {n : Nat} {μ : Mu} {w : World} {c : Bool} {x : AV} {v : Value} {K : AV → Prop} (h : unP c x K) (hx : ARel n μ w x v) : ∃ y, K y ∧ (c = true → ARel n μ w y v) := by
  unfold unP at h
  split at h
  · rename_i r y z
    cases hx with
    | cnd _ _ _ _ h1 _ => exact ⟨y, h.2, fun hc => h1 (h.1 hc)⟩
  · exact ⟨x, h, fun _ => hx⟩
theorem unA_sound {n : Nat} {μ : Mu} {w : World} {x : AV} {v : Value} {K : AV → Prop} (h : unA x K) (hx : ARel n μ w x v) : ∃ y, K y ∧ ARel n μ w y v := by
  unfold unA at h
  split at h
  · rename_i r y z
    cases hx with
    | cnd _ _ _ _ h1 _ => exact ⟨y, h.2, h1 h.1⟩
  · exact ⟨x, h, hx⟩

theorem apick_sound {n : Nat} {μ : Mu} {w : World} {c x y : AV} {K : AV → Prop} (h : apick c x y K) {u p q : Value} (hc : ARel n μ w c u) (hx : ARel n μ w x p) (hy : ARel n μ w y q) :
    ∃ b z, u = .bool b ∧ K z ∧ ARel n μ w z (if b = true then p else q) := by
  unfold apick at h
  obtain ⟨c', h, hc'⟩ := unA_sound h hc
  split at h
  · obtain ⟨z, hz, hr⟩ := unA_sound h hx
    cases hc'; exact ⟨true, z, rfl, hz, hr⟩
  · obtain ⟨z, hz, hr⟩ := unA_sound h hy
    cases hc'; exact ⟨false, z, rfl, hz, by simpa using hr⟩
  · rename_i b
    cases hc'; rename_i hc'; cases hc'
    obtain ⟨x', h, hx'⟩ := unP_sound h hx
    obtain ⟨y', h, hy'⟩ := unP_sound h hy
    split at h
    · rename_i p' q' hp hq
      refine ⟨b, _, rfl, h, ?_⟩
      cases b with
      | true =>
        have := asB_rel (hx' rfl) hp; subst this
        exact .d _ _ (.bool _)
      | false =>
        have := asB_rel (hy' rfl) hq; subst this
        exact .d _ _ (.bool _)
    · refine ⟨b, _, rfl, h, ?_⟩
      cases b with
      | true => exact .cnd _ _ _ _ (fun _ => hx' rfl) (fun h => by cases h)
      | false => exact .cnd _ _ _ _ (fun h => by cases h) (fun _ => hy' rfl)
  · cases h

theorem gdec_sound {n : Nat} {μ : Mu} {w : World} {x : AV} {b r : Bool} {v : Value} (h : gdec x b = some r) (hx : ARel n μ w x v) : (vb v == some b) = r := by
  unfold gdec at h
  split at h
  · cases hx; cases h; cases b <;> rfl
  · cases hx; cases h; cases b <;> rfl
  · cases hx with
    | tup _ vs hl _ =>
      cases h
      cases vs with
      | nil => rfl
      | cons _ _ => simp at hl
  · cases h
theorem grun_sound {n : Nat} {μ : Mu} {w : World} (x : AV) {b r : Bool} {v : Value} (h : grun x b = some r) (hx : ARel n μ w x v) : (vb v == some b) = r := by
  cases x with
  | cnd c y z =>
    simp only [grun] at h
    split at h
    · rename_i p q hp hq
      cases h
      cases hx with
      | cnd _ _ _ _ h1 h2 =>
        cases c with
        | true => exact grun_sound y hp (h1 rfl)
        | false => exact grun_sound z hq (h2 rfl)
    · cases h
  | tt => simp only [grun] at h; cases h; cases hx; cases b <;> rfl
  | ff => simp only [grun] at h; cases h; cases hx; cases b <;> rfl
  | d x =>
    cases b <;> cases x <;> simp only [grun] at h <;> (try cases h)
    · rename_i c
      cases hx; rename_i hx; cases hx
      cases c <;> rfl
    · cases hx; rename_i hx; cases hx
      cases r <;> rfl
  | tup cs =>
    cases cs with
    | nil =>
      simp only [grun] at h; cases h
      cases hx with
      | tup _ vs hl _ =>
        cases vs with
        | nil => rfl
        | cons _ _ => simp at hl
    | cons _ _ => simp only [grun] at h; cases h
  | _ => simp only [grun] at h; cases h
termination_by SizeOf.sizeOf x

theorem bop_defer {T : Tab} {s : St} {c : Call} {K : AV → Heap → Prop} (h : bop T s (.defer c) K) : False := h

/-- What comes of one operation's value, or of the call that it enters. -/
def VOut (F : Fence) (P : Program) (h : Heap) (μ : Mu) (w : World) (rs : Result Next) (K : AV → Heap → Prop) : Prop :=
  HOut h.nx μ w rs K ∨ (∃ f args, rs = .ok (.enter f args) w ∧ CallsIn F (0 - 1) P f args w (Aimed h μ w K)) ∨
    ∃ l f tmps assign body, rs = .ok (.round l f tmps assign body) w ∧ RoundIn F (0 - 1) P l f tmps assign body w (Aimed h μ w K)

theorem callsIn_FW {rk : Option Nat} {n : Nat} {f : FuncId} {args : Array Value} {w : World} {R : Ending → World → Prop} (h : Calls P f args w R) : CallsIn (FW rk) n P f args w R := by
  cases rk with
  | none => exact callsIn_wide.2 h
  | some k => exact (callsIn_wide.2 h).inRound k

include hT in
theorem aval_sound {N : Nat} {s : St} {μ : Mu} {a : Act} {w : World} (hs : SRel N s μ a w) (rk : Option Nat) (o : Oper) {K : AV → Heap → Prop} (hk : aval P T o.op s K) :
    (∀ c, o.op ≠ .defer c) ∧ VOut (FW rk) P s.hp μ w ((execOp a.eval o).run P w) K := by
  unfold aval at hk
  split at hk
  · rename_i c x y ho
    refine ⟨fun c h => (by rw [ho] at h; cases h), .inl ?_⟩
    obtain ⟨b, z, h1, h2, h3⟩ := apick_sound hk (ev_rel hs c) (ev_rel hs x) (ev_rel hs y)
    refine ⟨z, s.hp, μ, w, h2, hs.hp, .refl _ _ _ hs.hp.hi, Nat.le_refl _, .inl ⟨_, ?_, h3⟩⟩
    simp only [execOp, ho, h1, asBool, Sem.run_bind, Sem.run_pure, Result.andThen_ok]
  · rename_i c ho
    refine ⟨fun c h => (by rw [ho] at h; cases h), ?_⟩
    obtain ⟨s', hk, hs', hhp, _⟩ := ares_sound _ hs hk
    have call : ∀ (f : Operand) (g : FuncId) (caps : List AV) (cvs : List Value), c.callee = .value f → a.eval f = .func (.func g) #[] cvs.toArray → cvs.length = caps.length →
        (∀ (i : Nat) (c : AV) (v : Value), caps[i]? = some c → cvs[i]? = some v → ARel s'.hp.nx μ w c v) → ACall P g (c.args.toList.map (ev s') ++ caps) s'.hp K → VOut (FW rk) P s.hp μ w ((execOp a.eval o).run P w) K := by
      intro f g caps cvs hcal hf hl hr hc
      have hrun : (execOp a.eval o).run P w = (callFunc g (c.args.toList.map a.eval ++ cvs).toArray).run P w := by
        simp only [execOp, ho, resolve, hcal, hf, Deferred.ofValue, Sem.run_bind, Sem.run_pure, Result.andThen_ok, invoke]
        congr 2
        apply Array.ext'; simp
      have hargs : ∀ (i : Nat) (q : AV) (v : Value), (c.args.toList.map (ev s') ++ caps)[i]? = some q → (c.args.toList.map a.eval ++ cvs)[i]? = some v → ARel s'.hp.nx μ w q v := by
        intro i q v h1 h2
        rw [List.getElem?_append] at h1 h2
        simp only [List.length_map] at h1 h2
        by_cases hi : i < c.args.toList.length
        · rw [if_pos hi, List.getElem?_map, Option.map_eq_some_iff] at h1 h2
          obtain ⟨x, hx, rfl⟩ := h1
          obtain ⟨x', hx', rfl⟩ := h2
          rw [hx] at hx'; cases hx'
          exact ev_rel hs' x
        · rw [if_neg hi] at h1 h2
          exact hr _ q v h1 h2
      rw [← hhp]
      rcases hc.go μ w (c.args.toList.map a.eval ++ cvs) hs'.hp (by simp [hl]) hargs with ⟨⟨fn, hfn, hnm, hbd⟩, hcl⟩ | ⟨v, w', hcf, h1⟩
      · refine .inr (.inl ⟨g, _, ?_, callsIn_FW hcl⟩)
        rw [hrun]
        unfold callFunc
        rw [Sem.run_bind, show (program).run P w = .ok P w from rfl]
        simp only [Result.andThen_ok, hfn, hnm, hbd, Bool.false_eq_true, if_false]
        rfl
      · obtain ⟨r, h', μ', v', he, hK, g1, g2, g3, g4⟩ := h1
        cases he
        exact .inl ⟨r, h', μ', w', hK, g1, g2, g3, .inl ⟨v, by rw [hrun, hcf], g4⟩⟩
    split at hk
    · rename_i f hcal
      have hf := ev_rel hs' f
      split at hk
      · rename_i g he
        rw [he] at hf
        cases hv : a.eval f <;> rw [hv] at hf <;> cases hf <;> rename_i hf <;> cases hf
        exact call f g [] [] hcal hv rfl (fun i c v h => by simp at h) (by rw [forceL_iff] at hk; simpa using hk)
      · rename_i g caps he
        rw [he] at hf
        obtain ⟨u, hu⟩ : ∃ u, a.eval f = u := ⟨_, rfl⟩
        rw [hu] at hf
        cases hf with
        | fn _ _ cvs hl hr => exact call f g caps cvs hcal hu hl hr ((forceL_iff _ _).1 hk)
      · rename_i l he
        rw [he] at hf
        rw [forceL_iff] at hk
        obtain ⟨u, hu⟩ : ∃ u, a.eval f = u := ⟨_, rfl⟩
        rw [hu] at hf
        cases hf with
        | yld _ k hb hr =>
          obtain ⟨fn, tmps, assign, body, g1, g2⟩ := hk.go μ w (c.args.toList.map a.eval) rk k hs'.hp (by simp) (fun i q v h1 h2 => by
            rw [List.getElem?_map, Option.map_eq_some_iff] at h1 h2
            obtain ⟨x, hx, rfl⟩ := h1
            obtain ⟨x', hx', rfl⟩ := h2
            rw [hx] at hx'; cases hx'
            exact ev_rel hs' x) hr
          rw [← hhp]
          refine .inr (.inr ⟨k, fn, tmps, assign, body, ?_, g2⟩)
          simp only [execOp, ho, resolve, hcal, hu, Deferred.ofValue, Sem.run_bind, Sem.run_pure, Result.andThen_ok, invoke]
          have : #[] ++ Array.map a.eval c.args = (c.args.toList.map a.eval).toArray := by apply Array.ext'; simp
          rw [this, g1]
      · cases hk
    · refine .inl ?_
      have := bop_sound hT hs' o (K := K) (by rw [ho]; exact hk)
      rwa [hhp] at this
  · refine ⟨fun c h => ?_, .inl ?_⟩
    · rw [h] at hk
      obtain ⟨s', hk, _⟩ := ares_sound _ hs hk
      exact bop_defer hk
    · obtain ⟨s', hk, hs', hhp, _⟩ := ares_sound _ hs hk
      have := bop_sound hT hs' o hk
      rwa [hhp] at this
end
end Go.Pm
end
section
/- Regions in the order of the text; code. -/
namespace Go.Pm

/-- What is shown behind a piece of code. -/
def APost (n0 : Nat) (μ0 : Mu) (w0 : World) (N : Nat) (rnd : Option Nat × Nat) (Q : Exit → St → Prop) : Exit → Act → World → Prop :=
  fun e a w => ∃ s μ, Q e s ∧ SRel N s μ a w ∧ Ext n0 μ0 w0 μ w ∧ n0 ≤ s.hp.nx ∧ s.tag = rnd

/-- A piece of code, from an abstract state. -/
structure AW (P : Program) (c : Code) (N : Nat) (s : St) (Q : Exit → St → Prop) : Prop where
  go : ∀ (μ : Mu) (a : Act) (w : World) (rk : Option Nat), SRel N s μ a w → RndRel s.hp.nx μ s.tag.1 rk → c.wpIn (FW rk) 0 P (APost s.hp.nx μ w N s.tag Q) a w

section
variable {P : Program} {T : Tab} (hT : TabOk P T)

theorem FW_fn (rk : Option Nat) (f : FuncId) : (FW rk).fn f := by cases rk <;> trivial
theorem FW_depth (rk : Option Nat) : (FW rk).depth = none := by cases rk <;> rfl
theorem FW_round (rk : Option Nat) : (FW rk).round = rk := by cases rk <;> rfl

theorem afin_sound {N : Nat} {s : St} {μ μ' : Mu} {a : Act} {w w' : World} (hs : SRel N s μ a w) {dst : Option Tmp} {x : AV} {h : Heap} {K : St → Prop} (hk : afin N s dst x h K) (hh : HRel h μ' w') (he : Ext s.hp.nx μ w μ' w') (hn : s.hp.nx ≤ h.nx)
    {v : Value} (hv : ARel h.nx μ' w' x v) : ∃ s', K s' ∧ SRel N s' μ' (a.put dst v) w' ∧ s'.hp = h ∧ s'.tag = s.tag := by
  obtain ⟨tm, hp, rnd, df⟩ := s
  obtain ⟨log, nx⟩ := h
  simp only [afin] at hk
  split at hk
  · rename_i d
    cases hb : Nat.blt d N with
    | false => rw [hb] at hk; cases hk
    | true =>
      rw [hb, cond_true, AV.force_iff] at hk
      exact ⟨_, hk, hs.put he hn hh d (Nat.le_of_ble_eq_true hb) hv, rfl, rfl⟩
  · exact ⟨_, hk, hs.go he hn hh, rfl, rfl⟩

theorem wanted_guard {N : Nat} {s : St} {μ : Mu} {a : Act} {w : World} (hs : SRel N s μ a w) {ops : Array Oper} {o oj : Oper} {j : Nat} {b : Bool} {dj : Tmp} (hg : o.guard = some (j, b)) (hj : ops.toList[j]? = some oj) (hd : oj.dst = some dj) (hlt : dj < N) :
    Region.wanted o (yielded ops a.tmps) = (vb (a.tmps.getD dj undef) == some b) := by
  have hj' : ops[j]? = some oj := by simpa using hj
  have hlt' : dj < a.tmps.size := by rw [hs.size]; exact hlt
  simp only [Region.wanted, hg, yielded, hj', Option.bind_some, hd]
  rw [Array.getElem?_eq_getElem hlt']
  have : a.tmps.getD dj undef = a.tmps[dj] := by rw [Array.getD_eq_getD_getElem?, Array.getElem?_eq_getElem hlt']; rfl
  rw [this]
  generalize a.tmps[dj] = v
  cases v <;> rfl

theorem wanted_guard' {N : Nat} {s : St} {μ : Mu} {a : Act} {w : World} (hs : SRel N s μ a w) {ops : Array Oper} {o oj : Oper} {j : Nat} {b : Bool} {dj : Tmp} (hg : o.guard = some (j, b)) (hj : ops.toList[j]? = some oj) (hd : oj.dst = some dj) :
    Region.wanted o (yielded ops a.tmps) = (vb (a.tmps.getD dj undef) == some b) := by
  by_cases hlt : dj < N
  · exact wanted_guard hs hg hj hd hlt
  · have hj' : ops[j]? = some oj := by simpa using hj
    simp only [Region.wanted, hg, yielded, hj', Option.bind_some, hd]
    rw [Array.getElem?_eq_none (by rw [hs.size]; exact Nat.le_of_not_lt hlt)]
    rw [Array.getD_eq_getD_getElem?, Array.getElem?_eq_none (by rw [hs.size]; exact Nat.le_of_not_lt hlt)]
    rfl

include hT in
/-- One operation that runs. -/
theorem run_sound {N : Nat} {s : St} {μ : Mu} {a : Act} {w : World} (hs : SRel N s μ a w) (rk : Option Nat) (o : Oper) {K : AV → Heap → Prop} (hk : aval P T o.op s K) {next : Act → World → Prop} {Q : Exit → Act → World → Prop}
    (hn : ∀ x h' μ' w' v, K x h' → HRel h' μ' w' → Ext s.hp.nx μ w μ' w' → s.hp.nx ≤ h'.nx → ARel h'.nx μ' w' x v → next (a.put o.dst v) w') : o.wpIn (FW rk) 0 P a w next Q := by
  refine ⟨fun f _ => FW_fn rk f, ?_⟩
  obtain ⟨hd, hv⟩ := aval_sound hT hs rk o hk
  rw [Oper.semAt_eq _ _ _ hd]
  rcases hv with ⟨x, h', μ', w', hK, h1, h2, h3, hr | hr⟩ | ⟨f, args, hr, hc⟩ | ⟨l, f, tmps, assign, body, hr, hc⟩
  · obtain ⟨r, hr, hrel⟩ := hr
    rw [hr, Oper.uponIn_value]
    exact hn x h' μ' w' r hK h1 h2 h3 hrel
  · obtain ⟨hr, rfl⟩ := hr
    rw [hr, Oper.uponIn_skip]
    exact hn _ h' μ' w' undef hK h1 h2 h3 (.junk _)
  · rw [hr, Oper.uponIn_enter]
    refine ⟨fun h => (by rw [FW_depth] at h; cases h), hc.mono fun e w'' ⟨r, h', μ', v, he, hK, h1, h2, h3, h4⟩ => ?_⟩
    subst he
    exact hn r h' μ' w'' v hK h1 h2 h3 h4
  · rw [hr, Oper.uponIn_round]
    refine ⟨fun h => (by rw [FW_depth] at h; cases h), hc.mono fun e w'' ⟨r, h', μ', v, he, hK, h1, h2, h3, h4⟩ => ?_⟩
    subst he
    exact hn r h' μ' w'' v hK h1 h2 h3 h4

include hT in
theorem aone_sound {N : Nat} {s : St} {μ : Mu} {a : Act} {w : World} (hs : SRel N s μ a w) (rk : Option Nat) (ops : Array Oper) (o : Oper) {K : St → Prop} (hk : aone P T N ops.toList o s K) {next : Act → World → Prop} {Q : Exit → Act → World → Prop}
    (hn : ∀ s' μ' a' w', K s' → SRel N s' μ' a' w' → Ext s.hp.nx μ w μ' w' → s.hp.nx ≤ s'.hp.nx → s'.tag = s.tag → next a' w') :
    if Region.wanted o (yielded ops a.tmps) then o.wpIn (FW rk) 0 P a w next Q else (∀ f, o.about P w a.eval = some f → (FW rk).fn f) ∧ next (a.put o.dst undef) w := by
  have hrefl : Ext s.hp.nx μ w μ w := .refl _ _ _ hs.hp.hi
  have run : aval P T o.op s (fun z h => afin N s o.dst z h K) → o.wpIn (FW rk) 0 P a w next Q := fun hk =>
    run_sound hT hs rk o hk fun x h' μ' w' v h1 h2 h3 h4 h5 => by
      obtain ⟨s', g1, g2, g3, g4⟩ := afin_sound hs h1 h2 h3 h4 h5
      exact hn s' μ' _ w' g1 g2 h3 (by rw [g3]; exact h4) g4
  have skip : ∀ x, ARel s.hp.nx μ w x undef → afin N s o.dst x s.hp K → (∀ f, o.about P w a.eval = some f → (FW rk).fn f) ∧ next (a.put o.dst undef) w := fun x hx hk => by
    obtain ⟨s', g1, g2, g3, g4⟩ := afin_sound hs hk hs.hp hrefl (Nat.le_refl _) hx
    exact ⟨fun f _ => FW_fn rk f, hn s' μ _ w g1 g2 hrefl (by rw [g3]; exact Nat.le_refl _) g4⟩
  have htup : ARel s.hp.nx μ w (.tup []) undef := .tup [] [] rfl (fun i c v h => by simp at h)
  unfold aone at hk
  split at hk
  · rename_i hg
    have : Region.wanted o (yielded ops a.tmps) = true := by simp only [Region.wanted, hg]
    rw [if_pos this]
    exact run hk
  · rename_i j b hg
    split at hk
    · rename_i oj hj
      split at hk
      · rename_i dj hdj
        rw [wanted_guard' hs hg hj hdj]
        have hv := hs.tm dj
        split at hk
        · rename_i hgd
          rw [gdec_sound hgd hv, if_pos rfl]
          exact run hk
        · rename_i hgd
          rw [gdec_sound hgd hv, if_neg (by simp)]
          exact skip _ htup hk
        · split at hk
          · rename_i r hgr
            rw [grun_sound _ hgr hv]
            rcases hk with ⟨y, h1, h2⟩ | ⟨h1, h2⟩
            · rw [AV.force_iff] at h2
              cases r with
              | true =>
                rw [if_pos rfl]
                refine run_sound hT hs rk o (h1 rfl) fun x h' μ' w' v g1 g2 g3 g4 g5 => ?_
                obtain ⟨rfl, rfl⟩ := g1
                obtain ⟨s', e1, e2, e3, e4⟩ := afin_sound hs h2 g2 g3 g4 (v := v) (.cnd _ _ _ _ (fun _ => g5) (fun h => by cases h))
                exact hn s' μ' _ w' e1 e2 g3 (by rw [e3]; exact g4) e4
              | false =>
                rw [if_neg (by simp)]
                exact skip _ (.cnd _ _ _ _ (fun h => by cases h) (fun _ => htup)) h2
            · have hs2 : SRel N (decS s dj b r) μ a w := hs.slot (decV_rel hv (grun_sound _ hgr hv))
              cases r with
              | true =>
                rw [if_pos rfl]
                exact run_sound hT hs2 rk o (h1 rfl) fun x h' μ' w' v h1 h2 h3 h4 h5 => by
                  obtain ⟨s', g1, g2, g3, g4⟩ := afin_sound hs2 h1 h2 h3 h4 h5
                  exact hn s' μ' _ w' g1 g2 h3 (by rw [g3]; exact h4) g4
              | false =>
                rw [if_neg (by simp)]
                obtain ⟨s', g1, g2, g3, g4⟩ := afin_sound hs2 (h2 rfl) hs.hp hrefl (Nat.le_refl _) htup
                exact ⟨fun f _ => FW_fn rk f, hn s' μ _ w g1 g2 hrefl (by rw [g3]; exact Nat.le_refl _) g4⟩
          · cases hk
      · cases hk
    · cases hk

include hT in
theorem aops_sound (rk : Option Nat) (ops : Array Oper) {n0 : Nat} {μ0 : Mu} {w0 : World} {N : Nat} {rnd : Option Nat × Nat} {Q : Exit → St → Prop} :
    ∀ (m i : Nat), ops.size = i + m → ∀ (s : St) (μ : Mu) (a : Act) (w : World), SRel N s μ a w → Ext n0 μ0 w0 μ w → n0 ≤ s.hp.nx → s.tag = rnd → aops P T N ops.toList (ops.toList.drop i) s (Q .normal) →
      wpOpsIn (FW rk) 0 P ops (APost n0 μ0 w0 N rnd Q) (List.range' i m) a w := by
  intro m
  induction m with
  | zero =>
    intro i hi s μ a w hs he hn hr hk
    rw [List.drop_of_length_le (by simp; omega)] at hk
    exact ⟨s, μ, hk, hs, he, hn, hr⟩
  | succ m ih =>
    intro i hi s μ a w hs he hn hr hk
    have hlt : i < ops.toList.length := by simp; omega
    rw [List.drop_eq_getElem_cons hlt] at hk
    have hget : ops[i]? = some ops[i] := Array.getElem?_eq_getElem (by simpa using hlt)
    simp only [List.range'_succ, wpOpsIn, hget]
    have := aone_sound hT hs rk ops ops[i] (K := fun s' => aops P T N ops.toList (ops.toList.drop (i + 1)) s' (Q .normal)) (by simpa [aops] using hk)
      (next := wpOpsIn (FW rk) 0 P ops (APost n0 μ0 w0 N rnd Q) (List.range' (i + 1) m)) (Q := APost n0 μ0 w0 N rnd Q)
      (fun s' μ' a' w' h1 h2 h3 h4 h5 => ih (i + 1) (by omega) s' μ' a' w' h2 (he.trans hn h3) (Nat.le_trans hn h4) (h5.trans hr) h1)
    exact this

include hT in
theorem AW.region {id : Nat} {ops : Array Oper} {N : Nat} {s : St} {Q : Exit → St → Prop} (h : aops P T N ops.toList ops.toList s (Q .normal)) : AW P (.region id ops false) N s Q := by
  refine ⟨fun μ a w rk hs hr => ?_⟩
  refine wpIn_region ?_
  have := aops_sound hT rk ops (n0 := s.hp.nx) (μ0 := μ) (w0 := w) (N := N) (rnd := s.tag) (Q := Q) ops.size 0 (by omega) s μ a w hs (.refl _ _ _ hs.hp.hi) (Nat.le_refl _) rfl (by simpa using h)
  rwa [List.range_eq_range']

theorem APost.trans {n0 n1 : Nat} {μ0 μ1 : Mu} {w0 w1 : World} {N : Nat} {rnd : Option Nat × Nat} {Q : Exit → St → Prop} (h : Ext n0 μ0 w0 μ1 w1) (hn : n0 ≤ n1) {e : Exit} {a : Act} {w : World} (hp : APost n1 μ1 w1 N rnd Q e a w) : APost n0 μ0 w0 N rnd Q e a w := by
  obtain ⟨s, μ, h1, h2, h3, h4, h5⟩ := hp
  exact ⟨s, μ, h1, h2, h.trans hn h3, Nat.le_trans hn h4, h5⟩

theorem AW.mono {c : Code} {N : Nat} {s : St} {Q Q' : Exit → St → Prop} (h : AW P c N s Q) (hq : ∀ e s, Q e s → Q' e s) : AW P c N s Q' := by
  refine ⟨fun μ a w rk hs hr => ?_⟩
  exact wpIn_mono (h.go μ a w rk hs hr) fun e a w ⟨s, μ, h1, h2⟩ => ⟨s, μ, hq e s h1, h2⟩

theorem AW.skip {N : Nat} {s : St} {Q : Exit → St → Prop} (h : Q .normal s) : AW P .skip N s Q := by
  refine ⟨fun μ a w rk hs hr => ?_⟩
  exact wpIn_skip ⟨s, μ, h, hs, .refl _ _ _ hs.hp.hi, Nat.le_refl _, rfl⟩
theorem AW.label {l N : Nat} {s : St} {Q : Exit → St → Prop} (h : Q .normal s) : AW P (.label l) N s Q := by
  refine ⟨fun μ a w rk hs hr => ?_⟩
  exact wpIn_label ⟨s, μ, h, hs, .refl _ _ _ hs.hp.hi, Nat.le_refl _, rfl⟩
theorem AW.ret {N : Nat} {s : St} {Q : Exit → St → Prop} (h : Q .ret s) : AW P .ret N s Q := by
  refine ⟨fun μ a w rk hs hr => ?_⟩
  exact wpIn_ret ⟨s, μ, h, hs, .refl _ _ _ hs.hp.hi, Nat.le_refl _, rfl⟩
theorem AW.exit {id N : Nat} {s : St} {Q : Exit → St → Prop} (h : Q (.exit id) s) : AW P (.exit id) N s Q := by
  refine ⟨fun μ a w rk hs hr => ?_⟩
  exact wpIn_exit ⟨s, μ, h, hs, .refl _ _ _ hs.hp.hi, Nat.le_refl _, rfl⟩
theorem AW.goto {l N : Nat} {s : St} {Q : Exit → St → Prop} (h : Q (.goto l) s) : AW P (.goto l) N s Q := by
  refine ⟨fun μ a w rk hs hr => ?_⟩
  exact wpIn_goto ⟨s, μ, h, hs, .refl _ _ _ hs.hp.hi, Nat.le_refl _, rfl⟩

def QSeq (P : Program) (y : Code) (N : Nat) (Q : Exit → St → Prop) : Exit → St → Prop
  | .normal, s => AW P y N s Q
  | e, s => Q e s
theorem AW.seq {x y : Code} {N : Nat} {s : St} {Q : Exit → St → Prop} (h : AW P x N s (QSeq P y N Q)) : AW P (.seq x y) N s Q := by
  refine ⟨fun μ a w rk hs hr => ?_⟩
  refine wpIn_seq (wpIn_mono (h.go μ a w rk hs hr) fun e a' w' ⟨s', μ', h1, h2, h3, h4, h5⟩ => ?_)
  cases e with
  | normal => exact wpIn_mono (h1.go μ' a' w' rk h2 (by rw [h5]; exact hr.ext h3 h4)) fun e a w hp => APost.trans h3 h4 (by rw [h5] at hp; exact hp)
  | _ => exact ⟨s', μ', h1, h2, h3, h4, h5⟩

theorem AW.cond {c : Operand} {x y : Code} {N : Nat} {s : St} {Q : Exit → St → Prop}
    (h : match ev s c with | .tt => AW P x N s Q | .ff => AW P y N s Q | .d (.bool b) => (b = true → AW P x N s Q) ∧ (b = false → AW P y N s Q) | _ => False) : AW P (.cond c x y) N s Q := by
  refine ⟨fun μ a w rk hs hr => ?_⟩
  have hc := ev_rel hs c
  split at h
  · rename_i he; rw [he] at hc
    exact wpIn_cond_true (by cases hv : a.eval c <;> rw [hv] at hc <;> cases hc; rfl) (h.go μ a w rk hs hr)
  · rename_i he; rw [he] at hc
    exact wpIn_cond_false (by cases hv : a.eval c <;> rw [hv] at hc <;> cases hc; rfl) (h.go μ a w rk hs hr)
  · rename_i b he; rw [he] at hc
    have hv : a.eval c = .bool b := by cases hv : a.eval c <;> rw [hv] at hc <;> cases hc <;> rename_i hc <;> cases hc; rfl
    exact wpIn_cond_split hv (fun hb => (h.1 hb).go μ a w rk hs hr) (fun hb => (h.2 hb).go μ a w rk hs hr)
  · cases h

def QBlock (id : Nat) (Q : Exit → St → Prop) : Exit → St → Prop
  | .exit i, s => cond (Nat.beq i id) (Q .normal s) (Q (.exit i) s)
  | e, s => Q e s
theorem AW.block {id : Nat} {c : Code} {N : Nat} {s : St} {Q : Exit → St → Prop} (h : AW P c N s (QBlock id Q)) : AW P (.block id c) N s Q := by
  refine ⟨fun μ a w rk hs hr => ?_⟩
  refine wpIn_block (wpIn_mono (h.go μ a w rk hs hr) fun e a' w' ⟨s', μ', h1, h2, h3, h4, h5⟩ => ?_)
  cases e with
  | exit i =>
    simp only [Exit.inBlock]
    simp only [QBlock] at h1
    cases hb : Nat.beq i id with
    | true =>
      rw [hb] at h1
      rw [if_pos (Nat.eq_of_beq_eq_true hb)]
      exact ⟨s', μ', h1, h2, h3, h4, h5⟩
    | false =>
      rw [hb] at h1
      rw [if_neg (fun e => by subst e; simp at hb)]
      exact ⟨s', μ', h1, h2, h3, h4, h5⟩
  | _ => exact ⟨s', μ', h1, h2, h3, h4, h5⟩

theorem least {p : Nat → Prop} (h : ∃ k, p k) : ∃ k, p k ∧ ∀ j, p j → k ≤ j := by
  obtain ⟨k, hk⟩ := h
  induction k using Nat.strongRecOn with
  | _ k ih =>
    by_cases hj : ∃ j, j < k ∧ p j
    · obtain ⟨j, h1, h2⟩ := hj
      exact ih j h1 h2
    · exact ⟨k, hk, fun j h => Nat.le_of_not_lt fun hlt => hj ⟨j, hlt, h⟩⟩

/-! ### A scope without jumps -/
section
variable {F : Fence} {n : Nat} {b : Frame} {a : Act} {k : List Item} {cs : List Frame} {w : World} {Q : Exit → Act → World → Prop}
theorem stepR_scope {c : Code} : step P (lone (b.atR a (.code (.scope c) :: k)) cs w) = .next (lone (b.atR a (.code c :: .inScope c :: k)) cs w) :=
  step_lone_go (by simp [stepG, stepG.exec, Frame.atR])
theorem stepR_inScope {c : Code} : step P (lone (b.atR a (.inScope c :: k)) cs w) = .next (lone (b.atR a k) cs w) :=
  step_lone_go (by simp [stepG, stepG.exec, Frame.atR])
theorem wpIn_scope {c : Code} (h : c.wpIn F n P (Exit.noGoto Q) a w) : (Code.scope c).wpIn F n P Q a w := by
  intro b k cs hro hb hr
  have h0 : (lone (b.atR a (.code (.scope c) :: k)) cs w).fenced P F := fenced_calm hb hr rfl
  obtain ⟨e, a₁, w₁, hq, harr⟩ := h b (.inScope c :: k) cs hro hb hr
  cases e with
  | normal => exact ⟨.normal, a₁, w₁, hq, .head h0 stepR_scope (StepsIn.trans harr (.one (fenced_calm hb hr rfl) stepR_inScope))⟩
  | exit id =>
    have hx : exitTo id (.inScope c :: k) = exitTo id k := by simp [exitTo]
    exact ⟨.exit id, a₁, w₁, hq, fun k' hk => .head h0 stepR_scope (harr.1 k' (by rw [hx]; exact hk)),
      fun hr' hk => let ⟨k₁, h1, h2⟩ := harr.2 hr' (by rw [hx]; exact hk); ⟨k₁, h1, .head h0 stepR_scope h2⟩⟩
  | goto l => exact hq.elim
  | ret => exact ⟨_, a₁, w₁, hq, .of_steps (.one h0 stepR_scope) harr⟩
  | panic ch => exact ⟨_, a₁, w₁, hq, .of_steps (.one h0 stepR_scope) harr⟩
  | outgrown => exact ⟨_, a₁, w₁, hq, .of_steps (.one h0 stepR_scope) harr⟩
end
def QScope (Q : Exit → St → Prop) : Exit → St → Prop
  | .goto _, _ => False
  | e, s => Q e s
theorem AW.scope {c : Code} {N : Nat} {s : St} {Q : Exit → St → Prop} (h : AW P c N s (QScope Q)) : AW P (.scope c) N s Q := by
  refine ⟨fun μ a w rk hs hr => ?_⟩
  refine wpIn_scope (wpIn_mono (h.go μ a w rk hs hr) fun e a' w' ⟨s', μ', h1, h2⟩ => ?_)
  cases e with
  | goto l => exact h1.elim
  | _ => exact ⟨s', μ', h1, h2⟩

def QLoop (I : Nat → St → Prop) (k : Nat) (Q : Exit → St → Prop) : Exit → St → Prop
  | .normal, s => ∃ j, j < k ∧ I j s
  | e, s => Q e s
/-- A loop: an invariant with a number that lessens. -/
theorem AW.loop {c : Code} {N : Nat} {s : St} {Q : Exit → St → Prop} (I : Nat → St → Prop) (k : Nat) (h0 : I k s) (h : ∀ k s, I k s → AW P c N s (QLoop I k Q)) : AW P (.loop c) N s Q := by
  refine ⟨fun μ a w rk hs hr => ?_⟩
  have hI : ∀ a' w', (∃ k s' μ', I k s' ∧ SRel N s' μ' a' w' ∧ Ext s.hp.nx μ w μ' w' ∧ s.hp.nx ≤ s'.hp.nx ∧ s'.tag = s.tag) →
      ∃ k, (∃ s' μ', I k s' ∧ SRel N s' μ' a' w' ∧ Ext s.hp.nx μ w μ' w' ∧ s.hp.nx ≤ s'.hp.nx ∧ s'.tag = s.tag) ∧
        ∀ j, (∃ s' μ', I j s' ∧ SRel N s' μ' a' w' ∧ Ext s.hp.nx μ w μ' w' ∧ s.hp.nx ≤ s'.hp.nx ∧ s'.tag = s.tag) → k ≤ j := fun a' w' h => least h
  refine wpIn_loop (fun a' w' => ∃ k s' μ', I k s' ∧ SRel N s' μ' a' w' ∧ Ext s.hp.nx μ w μ' w' ∧ s.hp.nx ≤ s'.hp.nx ∧ s'.tag = s.tag)
    (fun a' w' => @dite Nat (∃ k s' μ', I k s' ∧ SRel N s' μ' a' w' ∧ Ext s.hp.nx μ w μ' w' ∧ s.hp.nx ≤ s'.hp.nx ∧ s'.tag = s.tag) (Classical.propDecidable _) (fun h => Classical.choose (hI a' w' h)) fun _ => 0) ⟨k, s, μ, h0, hs, .refl _ _ _ hs.hp.hi, Nat.le_refl _, rfl⟩ ?_
  intro a1 w1 h1
  obtain ⟨⟨s1, μ1, i1, i2, i3, i4, i5⟩, hmin⟩ := Classical.choose_spec (hI a1 w1 h1)
  refine wpIn_mono ((h _ s1 i1).go μ1 a1 w1 rk i2 (by rw [i5]; exact hr.ext i3 i4)) fun e a2 w2 ⟨s2, μ2, j1, j2, j3, j4, j5⟩ => ?_
  cases e with
  | normal =>
    obtain ⟨j, hj, hIj⟩ := j1
    have hex : ∃ k s' μ', I k s' ∧ SRel N s' μ' a2 w2 ∧ Ext s.hp.nx μ w μ' w2 ∧ s.hp.nx ≤ s'.hp.nx ∧ s'.tag = s.tag :=
      ⟨j, s2, μ2, hIj, j2, i3.trans i4 j3, Nat.le_trans i4 j4, j5.trans i5⟩
    refine ⟨hex, ?_⟩
    have hle := (Classical.choose_spec (hI a2 w2 hex)).2 j ⟨s2, μ2, hIj, j2, i3.trans i4 j3, Nat.le_trans i4 j4, j5.trans i5⟩
    rw [dif_pos hex, dif_pos h1]
    exact Nat.lt_of_le_of_lt hle hj
  | _ => exact APost.trans i3 i4 ⟨s2, μ2, j1, j2, j3, j4, j5⟩ |> fun hp => by rw [i5] at hp; exact hp
end
end Go.Pm
end
section
/- Functions: a call's contract from its body. -/
namespace Go.Pm

def aress (T : Tab) : List ResultVar → St → (List AV → Prop) → Prop
  | [], _, K => K []
  | x :: r, s, K => match x with
    | .tmp t => unA (look s.tm t) fun y => aress T r s fun xs => K (y :: xs)
    | .cell a t => aload T s.hp t (look s.tm a) fun y => aress T r s fun xs => K (y :: xs)

/-- What a function returns. -/
def aret (T : Tab) (rs : List ResultVar) (s : St) (K : AV → Prop) : Prop :=
  aress T rs s fun xs => match xs with
    | [x] => K x
    | _ => K (.tup xs)

def QRet (T : Tab) (rs : List ResultVar) (K : AV → Heap → Prop) : Exit → St → Prop
  | .normal, s | .ret, s => aret T rs s fun x => K x s.hp
  | _, _ => False

/-- The slots that hold the arguments. -/
def argTm : List AV → Nat → List (Nat × AV)
  | [], _ => []
  | x :: r, i => (i, x) :: argTm r (i + 1)

section
variable {P : Program} {T : Tab} (hT : TabOk P T)

theorem look_args : ∀ (args : List AV) (i k : Nat), look (argTm args i) k = if i ≤ k then (args[k - i]?).getD .junk else .junk
  | [], i, k => by simp [argTm, look]
  | x :: r, i, k => by
    rw [argTm, look_cons]
    by_cases h : k = i
    · subst h; simp
    · rw [if_neg h, look_args r (i + 1) k]
      by_cases h2 : i ≤ k
      · rw [if_pos (by omega), if_pos h2]
        have e : k - i = (k - (i + 1)) + 1 := by omega
        rw [e, List.getElem?_cons_succ]
      · rw [if_neg (by omega), if_neg h2]

def resv (tmps : Array Value) : ResultVar → Sem Value
  | .tmp t => pure (tmps.getD t undef)
  | .cell a t => do loadVar t (← asAddr (tmps.getD a undef))
theorem results_resv (fn : Func) (tmps : Array Value) : results fn tmps = (do
    let vs ← fn.results.mapM (resv tmps)
    pure (if h : vs.size = 1 then vs[0] else .tuple vs)) := by
  unfold results
  congr 1

include hT in
theorem aress_sound {N : Nat} {s : St} {μ : Mu} {a : Act} {w : World} (hs : SRel N s μ a w) : ∀ (rs : List ResultVar) {K : List AV → Prop}, aress T rs s K →
    ∃ xs vs, K xs ∧ (rs.mapM (resv a.tmps) : Sem (List Value)).run P w = .ok vs w ∧ vs.length = xs.length ∧
      ∀ (i : Nat) (c : AV) (v : Value), xs[i]? = some c → vs[i]? = some v → ARel s.hp.nx μ w c v
  | [], K, h => ⟨[], [], h, by simp, rfl, fun i c v h => by simp at h⟩
  | x :: r, K, h => by
    have cons : ∀ (y : AV) (v : Value), ARel s.hp.nx μ w y v → aress T r s (fun xs => K (y :: xs)) → ∃ xs vs, K xs ∧ (r.mapM (resv a.tmps) : Sem (List Value)).run P w = .ok vs w ∧ (v :: vs).length = xs.length ∧
      ∀ (i : Nat) (c : AV) (u : Value), xs[i]? = some c → (v :: vs)[i]? = some u → ARel s.hp.nx μ w c u := by
      intro y v hv h
      obtain ⟨xs, vs, h1, h2, h3, h4⟩ := aress_sound hs r h
      refine ⟨y :: xs, vs, h1, h2, by simp [h3], fun i c u g1 g2 => ?_⟩
      cases i with
      | zero => simp at g1 g2; subst g1 g2; exact hv
      | succ i => exact h4 i c u (by simpa using g1) (by simpa using g2)
    unfold aress at h
    split at h
    · rename_i t
      obtain ⟨y, hy, hr⟩ := unA_sound h (hs.tm t)
      obtain ⟨xs, vs, h1, h2, h3, h4⟩ := cons y _ hr hy
      exact ⟨xs, _, h1, by simp only [List.mapM_cons, resv, Sem.run_bind, Sem.run_pure, Result.andThen_ok, h2], h3, h4⟩
    · rename_i p t
      obtain ⟨v, y, hy, h1, h2⟩ := aload_sound hT hs.hp h (hs.tm p)
      obtain ⟨xs, vs, g1, g2, g3, g4⟩ := cons y v h2 hy
      refine ⟨xs, _, g1, ?_, g3, g4⟩
      have hl : (do loadVar t (← asAddr (a.tmps.getD p undef)) : Sem Value).run P w = .ok v w := by
        unfold Instr.loadAt at h1
        rw [Sem.run_bind] at h1 ⊢
        cases hq : a.tmps.getD p undef with
        | pointer x =>
          rw [hq] at h1
          cases x with
          | some x => exact h1
          | none => simp [Instr.sureAddr, stuck, Result.andThen] at h1
        | _ => rw [hq] at h1; simp [Instr.sureAddr, stuck, Result.andThen] at h1
      rw [Sem.run_bind] at hl
      simp only [List.mapM_cons, resv, Sem.run_bind, Sem.run_pure]
      rw [hl]
      simp only [Result.andThen_ok, g2]

include hT in
theorem aret_sound {N : Nat} {s : St} {μ : Mu} {a : Act} {w : World} (hs : SRel N s μ a w) (fn : Func) {K : AV → Prop} (h : aret T fn.results.toList s K) :
    ∃ x v, K x ∧ (results fn a.tmps).run P w = .ok v w ∧ ARel s.hp.nx μ w x v := by
  obtain ⟨xs, vs, h1, h2, h3, h4⟩ := aress_sound hT hs _ h
  have hm : (results fn a.tmps).run P w = .ok (if h : vs.toArray.size = 1 then vs.toArray[0] else .tuple vs.toArray) w := by
    rw [results_resv, Array.mapM_eq_mapM_toList, Sem.run_bind, Sem.run_map, h2]
    rfl
  cases vs with
  | nil =>
    cases xs with
    | nil => exact ⟨_, _, h1, hm, .tup [] [] rfl (fun i c v h => by simp at h)⟩
    | cons _ _ => simp at h3
  | cons v vs =>
    cases xs with
    | nil => simp at h3
    | cons x xs =>
      cases vs with
      | nil =>
        cases xs with
        | nil => exact ⟨_, _, h1, hm, h4 0 x v rfl rfl⟩
        | cons _ _ => simp at h3
      | cons v2 vs =>
        cases xs with
        | nil => simp at h3
        | cons x2 xs =>
          refine ⟨_, _, h1, hm, ?_⟩
          rw [dif_neg (by simp)]
          exact .tup _ _ h3 h4

theorem run_takeDeferredE {B : Nat} {w : World} (h : w.heap[B]? = some (.deferred (some []))) : (Instr.takeDeferred B).run P w = .ok [] { w with heap := w.heap.setIfInBounds B (.deferred none) } := by
  simp [Instr.takeDeferred, getObj, setObj, Sem.run, h]

include hT in
theorem leave_sound (fn : Func) {R : Ending → World → Prop} {N : Nat} {rs : Option Nat} {n0 : Nat} {μ0 : Mu} {w0 : World} {K : AV → Heap → Prop} (s : St) (μ : Mu) (tmps : Array Value) (hz : w0.heap.size ≤ s.df)
    (hR : ∀ x w v, K x s.hp → HRel s.hp μ w → Ext n0 μ0 w0 μ w → ARel s.hp.nx μ w x v → R (.returned v) w) (h : aret T fn.results.toList s fun x => K x s.hp) :
    ∀ (ds : List Deferred) (w : World), SRel N s μ { tmps := tmps, defers := ds } w → Ext n0 μ0 w0 μ w → LeavesInM (FW rs) 0 P fn tmps R ds .returning w := by
  intro ds
  induction ds with
  | nil =>
    intro w hs he
    obtain ⟨x, v, h1, h2, h3⟩ := aret_sound hT hs fn h
    simp only [LeavesInM, LeavesIn]
    exact ⟨v, h2, hR x w v h1 hs.hp he h3⟩
  | cons d ds ih =>
    intro w hs he
    obtain ⟨B, rfl, hzB, hok, hB⟩ := hs.df.each d (by simp)
    have hlt : B < w.heap.size := (Array.getElem?_eq_some_iff.1 hB).1
    have hsh : Shut w { w with heap := w.heap.setIfInBounds B (.deferred none) } B := ⟨by simp, fun k hk => by simp [Ne.symm hk], _, hB⟩
    simp only [LeavesInM]
    refine ⟨by simp, .inl ⟨B, _, rfl, run_takeDeferredE hB, ?_⟩⟩
    refine ih _ ⟨fun k => (hs.tm k).shut hsh, hs.size, hs.hp.shut hsh hok.2, ⟨fun d' hd' => ?_, (List.nodup_cons.1 hs.df.nodup).2, by rw [hsh.size]; exact hs.df.le⟩⟩
      ⟨he.os, he.tape, he.output, by rw [hsh.size]; exact he.size, he.out, fun k hk hf => by rw [hsh.other k (by omega)]; exact he.keep k hk hf, he.old, he.frees⟩
    obtain ⟨B', rfl, hz', hok', hB'⟩ := hs.df.each d' (by simp [hd'])
    refine ⟨B', rfl, hz', hok', ?_⟩
    have hne : B' ≠ B := by
      intro e; subst e
      exact (List.nodup_cons.1 hs.df.nodup).1 hd'
    rw [hsh.other _ hne]; exact hB'

include hT in
/-- A call's contract from the function's body. -/
theorem ACall.intro {f : FuncId} {args : List AV} {h : Heap} {K : AV → Heap → Prop} (fn : Func) (c : Code) (hf : P.funcs[f]? = some fn) (hb : fn.body = some c) (hnm : (fn.name == "runtime.NumGoroutine") = false) (hN : Nat.ble args.length fn.ntmps = true)
    (hw : ∀ z, AW P c fn.ntmps ⟨argTm args 0, h, none, z⟩ (QRet T fn.results.toList K)) : ACall P f args h K := by
  refine ⟨fun μ w vs hh hl hr => ?_⟩
  refine .inl ⟨⟨fn, hf, hnm, by rw [hb]; rfl⟩, (callsIn_wide (n := 0)).1 ?_⟩
  have hN := Nat.le_of_ble_eq_true hN
  refine callsIn_of_wp_marks hf hb trivial (F := Fence.wide) (hro := rfl) ?_
  have hs : SRel fn.ntmps ⟨argTm args 0, h, none, w.heap.size⟩ μ { tmps := vs.toArray ++ Array.replicate (fn.ntmps - vs.toArray.size) undef, defers := [] } w := by
    refine ⟨fun k => ?_, by simp; omega, hh, ⟨fun d hd => (by cases hd), List.nodup_nil, Nat.le_refl _⟩⟩
    rw [look_args]
    simp only [Nat.zero_le, if_true, Nat.sub_zero]
    rw [Array.getD_eq_getD_getElem?, Array.getElem?_append]
    by_cases hk : k < vs.length
    · rw [if_pos (by simpa using hk)]
      have hk' : k < args.length := by omega
      rw [List.getElem?_eq_getElem hk']
      simp only [List.getElem?_toArray, List.getElem?_eq_getElem hk, Option.getD_some]
      exact hr k _ _ (List.getElem?_eq_getElem hk') (List.getElem?_eq_getElem hk)
    · rw [List.getElem?_eq_none (by omega)]
      exact .junk _
  refine wpIn_mono ((hw w.heap.size).go μ _ w none hs trivial) fun e a' w' ⟨s', μ', h1, h2, h3, h4, h5⟩ => ?_
  have h6 : s'.df = w.heap.size := congrArg Prod.snd h5
  have key : (aret T fn.results.toList s' fun x => K x s'.hp) → LeavesInM (FW none) 0 P fn a'.tmps (Aimed h μ w K) a'.defers .returning w' := fun hk =>
    leave_sound hT fn s' μ' a'.tmps (by rw [h6]; exact Nat.le_refl _) (fun x w' v k1 k2 k3 k5 => ⟨x, s'.hp, μ', v, rfl, k1, k2, k3, h4, k5⟩) hk a'.defers w' h2 h3
  cases e with
  | normal => exact key h1
  | ret => exact key h1
  | _ => cases h1
end
end Go.Pm
end
section
/- Pure functions: of data, to data; whatever the caller holds stays. -/
namespace Go.Pm

mutual
def AV.dry : AV → Bool
  | .d _ | .tt | .ff => true
  | .tup cs => AV.drys cs
  | .agg cs => AV.drys cs
  | .fn _ cs => AV.drys cs
  | .iface _ x => AV.dry x
  | _ => false
def AV.drys : List AV → Bool
  | [] => true
  | x :: r => AV.dry x && AV.drys r
end

theorem drys_get : ∀ {cs : List AV}, AV.drys cs = true → ∀ (i : Nat) (c : AV), cs[i]? = some c → AV.dry c = true
  | [], _, i, c, h => by simp at h
  | x :: r, hd, i, c, h => by
    simp only [AV.drys, Bool.and_eq_true] at hd
    cases i with
    | zero => simp at h; subst h; exact hd.1
    | succ i => simp at h; exact drys_get hd.2 i c h

/-- A value without objects stands wherever its blocks are ok. -/
theorem ARel.dry {n n' : Nat} {μ μ' : Mu} {w : World} {x : AV} {v : Value} (h : ARel n μ w x v) (hd : AV.dry x = true) (hk : ∀ k, okOf μ k → okOf μ' k) : ARel n' μ' w x v := by
  induction h with
  | d x v h => exact .d x v (h.keep ⟨fun k _ h => hk k h, fun _ _ _ => rfl⟩)
  | tt => exact .tt
  | ff => exact .ff
  | fn f caps vs hl _ ih =>
    simp only [AV.dry] at hd
    exact .fn f caps vs hl fun i c v h1 h2 => ih i c v h1 h2 (drys_get hd i c h1)
  | agg cs vs hl ho _ ih =>
    simp only [AV.dry] at hd
    exact .agg cs vs hl ho fun i c v h1 h2 => ih i c v h1 h2 (drys_get hd i c h1)
  | tup cs vs hl _ ih =>
    simp only [AV.dry] at hd
    exact .tup cs vs hl fun i c v h1 h2 => ih i c v h1 h2 (drys_get hd i c h1)
  | iface t x v _ ih =>
    simp only [AV.dry] at hd
    exact .iface t x v (ih hd)
  | _ => simp [AV.dry] at hd

def Heap.none : Heap := ⟨[], 0⟩

/-- A pure call: of data, with a result of data. -/
def PCall (P : Program) (f : FuncId) (args : List AV) (R : AV → Prop) : Prop := ACall P f args Heap.none fun x _ => AV.dry x = true ∧ R x

/-- It may be called from anywhere. -/
theorem PCall.call {P : Program} {f : FuncId} {args : List AV} {R : AV → Prop} (hp : PCall P f args R) (hd : AV.drys args = true) {h : Heap} {K : AV → Heap → Prop} (hK : ∀ x, R x → K x h) : ACall P f args h K := by
  refine ⟨fun μ w vs hh hl hr => ?_⟩
  have hz : HRel Heap.none ⟨fun _ => none, okOf μ⟩ w :=
    ⟨fun i bd k h => (by cases h), fun k hk => ⟨hh.fresh k hk, fun i bd hi hre => (by have := hh.lts i bd k hi hre; omega)⟩, fun i => rfl, fun i _ => rfl, fun i j bi bj k h => (by cases h), fun i bd k h => (by cases h)⟩
  have hok : ∀ k, okOf μ k → okOf ⟨fun _ => none, okOf μ⟩ k := fun k hk => ⟨hk, fun i bd h => (by cases h)⟩
  have hm : ∀ e w', Aimed Heap.none ⟨fun _ => none, okOf μ⟩ w (fun x _ => AV.dry x = true ∧ R x) e w' → Aimed h μ w K e w' := by
    intro e w' ⟨r, h', μ', v, he, ⟨hdr, hR⟩, h1, h2, h3, h4⟩
    have hkeep : ∀ k, k < w.heap.size → w'.heap[k]? = w.heap[k]? := fun k hk => h2.keep k hk fun i bd h => (by cases h)
    have hext : Ext h.nx μ w μ w' := ⟨h2.os, h2.tape, h2.output, h2.size, rfl, fun k hk _ => hkeep k hk, fun i bd hi hb => ⟨bd, hb, .inl ⟨_, rfl⟩⟩, fun _ _ h => h⟩
    refine ⟨r, h, μ, v, he, hK r hR, ⟨hh.outs, fun k hk => hh.fresh k (Nat.le_trans h2.size hk), fun i => ?_, hh.hi, hh.inj, fun i b k hb hk => Nat.lt_of_lt_of_le (hh.lts i b k hb hk) h2.size⟩, hext, Nat.le_refl _, h4.dry hdr fun k hk => ?_⟩
    · exact (hh.obj i).ext hext (Nat.le_refl _) (fun bd k hb hre => hkeep _ (hh.lts i bd k hb hre))
    · have := hk.1
      rw [h2.out] at this
      exact this
  rcases hp.go _ w vs hz hl (fun i c v h1 h2 => (hr i c v h1 h2).dry (drys_get hd i c h1) hok) with ⟨hpl, hc⟩ | ⟨v, w', hc, ha⟩
  · exact .inl ⟨hpl, hc.mono hm⟩
  · exact .inr ⟨v, w', hc, hm _ _ ha⟩

/-- What is returned, seen in another way. -/
theorem PCall.conv {P : Program} {f : FuncId} {args : List AV} {R R' : AV → Prop} (hp : PCall P f args R) (hc : ∀ x, R x → ∃ x', R' x' ∧ AV.dry x' = true ∧ ∀ n μ w v, ARel n μ w x v → ARel n μ w x' v) : PCall P f args R' := by
  refine ⟨fun μ w vs h1 h2 h3 => ?_⟩
  have hm : ∀ e w', Aimed Heap.none μ w (fun x _ => AV.dry x = true ∧ R x) e w' → Aimed Heap.none μ w (fun x _ => AV.dry x = true ∧ R' x) e w' := by
    intro e w' ⟨r, h', μ', v, he, ⟨hdr, hR⟩, g1, g2, g3, g4⟩
    obtain ⟨x', k1, k2, k3⟩ := hc r hR
    exact ⟨x', h', μ', v, he, ⟨k2, k1⟩, g1, g2, g3, k3 _ _ _ _ g4⟩
  rcases hp.go μ w vs h1 h2 h3 with ⟨hpl, hc⟩ | ⟨v, w', hc, ha⟩
  · exact .inl ⟨hpl, hc.mono hm⟩
  · exact .inr ⟨v, w', hc, hm _ _ ha⟩

/-- Arguments, seen in another way. -/
theorem PCall.args {P : Program} {f : FuncId} {args args' : List AV} {R : AV → Prop} (hp : PCall P f args R) (hl : args'.length = args.length) (hc : ∀ (i : Nat) (c c' : AV), args[i]? = some c → args'[i]? = some c' → ∀ n μ w v, ARel n μ w c' v → ARel n μ w c v) : PCall P f args' R := by
  refine ⟨fun μ w vs h1 h2 h3 => ?_⟩
  refine hp.go μ w vs h1 (by omega) fun i c v k1 k2 => ?_
  have hi : i < args'.length := by have := (List.getElem?_eq_some_iff.1 k1).1; omega
  exact hc i c _ k1 (List.getElem?_eq_getElem hi) _ _ _ _ (h3 i _ v (List.getElem?_eq_getElem hi) k2)

/-! ### Rows of one's own, given away -/
def fzm (h : Heap) (c : AV) (K : D → Heap → Prop) : Prop :=
  match c with
  | .d x => K x h
  | .tt => K (.bool true) h
  | .ff => K (.bool false) h
  | .map b => match h.get b with
    | .map sh es clock => K (.mapd sh es clock) (h.set b .gone)
    | _ => False
  | .own b ver sz => match h.get b with
    | .row _ sz' l ver' => cond (Nat.beq sz sz') (ver = ver' ∧ K (.list sz l) (h.set b .gone)) False
    | .nest _ _ sz2 ll ver' hole => match hole with
      | none => cond (Nat.beq sz 1) (ver = ver' ∧ K (.list sz (lists sz2 ll)) (h.set b .gone)) False
      | some _ => False
    | _ => False
  | _ => False
def fzc (h : Heap) : List AV → (List D → Heap → Prop) → Prop
  | [], K => K [] h
  | c :: r, K => fzm h c fun d h1 => fzc h1 r fun q h2 => K (d :: q) h2
def fz1 (h : Heap) (x : AV) (K : AV → Heap → Prop) : Prop :=
  match x with
  | .own b ver sz => match h.get b with
    | .row _ sz' l ver' => cond (Nat.beq sz sz') (ver = ver' ∧ K (.d (.list sz l)) (h.set b .gone)) False
    | .nest _ _ sz2 ll ver' hole => match hole with
      | none => cond (Nat.beq sz 1) (ver = ver' ∧ K (.d (.list sz (lists sz2 ll))) (h.set b .gone)) False
      | some _ => False
    | _ => False
  | .ptr b off => match h.get b with
    | .var cs _ => cond (Nat.beq off 0) (fzc (h.set b .gone) cs fun ds h' => K (.d (.ptr ds)) h') False
    | _ => False
  | .map b => match h.get b with
    | .map sh es clock => K (.d (.mapd sh es clock)) (h.set b .gone)
    | _ => False
  | .d x => K (.d x) h
  | .tt => K (.d (.bool true)) h
  | .ff => K (.d (.bool false)) h
  | _ => False
def fzs (h : Heap) : List AV → (List AV → Heap → Prop) → Prop
  | [], K => K [] h
  | x :: r, K => fz1 h x fun y h1 => fzs h1 r fun q h2 => K (y :: q) h2
def fz (h : Heap) (x : AV) (K : AV → Heap → Prop) : Prop :=
  match x with
  | .tup cs => fzs h cs fun q h' => K (.tup q) h'
  | .agg cs => fzs h cs fun q h' => AV.norm (.agg q) fun y => K y h'
  | x => fz1 h x K

theorem drop_ok {h : Heap} {μ : Mu} {w : World} (hh : HRel h μ w) {b : Nat} {bd : Bind} (hb : μ b = some bd) (hre : bd.real) : okOf (muSet μ b none) bd.blk := by
  refine ⟨hh.outs b bd _ hb (Bind.has_blk hre), fun i bd' hi hre' => ?_⟩
  rw [muSet_at] at hi
  by_cases hib : i = b
  · rw [if_pos hib] at hi; cases hi
  · rw [if_neg hib] at hi
    exact hib (hh.inj i b bd' bd _ hi hb hre' (Bind.has_blk hre))
theorem map_data {h : Heap} {μ : Mu} {w : World} (hh : HRel h μ w) {b : Nat} {sh : KSh} {es : List (Nat × D × D)} {clock : Nat} (hget : h.get b = .map sh es clock) {v : Value} (hv : ARel h.nx μ w (.map b) v) :
    DRel (okOf (muSet μ b none)) w (.mapd sh es clock) v := by
  obtain ⟨_, hext⟩ := hh.drop b
  have ho := hh.obj b
  rw [hget] at ho
  obtain ⟨bd, E, hb, hver, hg, hent⟩ := ho.entries
  have hent := hent.keep hext.keeps
  cases hv with
  | map _ r hbn hr =>
  have := hr bd hb hver; subst this
  exact .mapd sh es clock bd.blk E (drop_ok hh hb (Bind.real0 hver)) hg (by simpa using hent.1) hent.2.1 (fun i q e h1 h2 => (hent.2.2 i q e h1 (by simpa using h2)).1) (fun i q e h1 h2 => (hent.2.2 i q e h1 (by simpa using h2)).2.1) (fun i q e h1 h2 => (hent.2.2 i q e h1 (by simpa using h2)).2.2)
theorem fzm_sound {h : Heap} {μ : Mu} {w : World} {c : AV} {v : Value} {K : D → Heap → Prop} (hz : fzm h c K) (hh : HRel h μ w) (hx : ARel h.nx μ w c v) :
    ∃ x h' μ', K x h' ∧ HRel h' μ' w ∧ Ext h.nx μ w μ' w ∧ h'.nx = h.nx ∧ DRel (okOf μ') w x v := by
  unfold fzm at hz
  split at hz
  · cases hx with
    | d _ _ hd => exact ⟨_, _, μ, hz, hh, .refl _ _ _ hh.hi, rfl, hd⟩
  · cases hx
    exact ⟨_, _, μ, hz, hh, .refl _ _ _ hh.hi, rfl, .bool _⟩
  · cases hx
    exact ⟨_, _, μ, hz, hh, .refl _ _ _ hh.hi, rfl, .bool _⟩
  · rename_i b
    split at hz
    · rename_i sh es clock hget
      obtain ⟨h1, h2⟩ := hh.drop b
      exact ⟨_, _, _, hz, h1, h2, rfl, map_data hh hget hx⟩
    · cases hz
  · rename_i b ver sz
    split at hz
    · rename_i e sz' l ver' hget
      cases hc : Nat.beq sz sz' with
      | false => rw [hc] at hz; cases hz
      | true =>
        rw [hc] at hz
        obtain ⟨e1, hz⟩ := hz
        have e2 := Nat.eq_of_beq_eq_true hc
        subst e1 e2
        obtain ⟨h1, h2⟩ := hh.drop b
        have := own_list hh hget hx
        cases this with
        | d _ _ hd => exact ⟨_, _, _, hz, h1, h2, rfl, hd⟩
    · rename_i e e2 sz2 ll ver' hole hget
      split at hz
      · cases hc : Nat.beq sz 1 with
        | false => rw [hc] at hz; cases hz
        | true =>
          rw [hc] at hz
          obtain ⟨e1, hz⟩ := hz
          have e2 := Nat.eq_of_beq_eq_true hc
          subst e1
          obtain ⟨h1, h2⟩ := hh.drop b
          have := nest_list hh e2 hget hx
          cases this with
          | d _ _ hd => exact ⟨_, _, _, hz, h1, h2, rfl, hd⟩
      · cases hz
    · cases hz
  · cases hz
theorem fzc_sound : ∀ (cs : List AV) {h : Heap} {μ : Mu} {w : World} {K : List D → Heap → Prop} (vs : Nat → Value), fzc h cs K → HRel h μ w → (∀ (i : Nat) (c : AV), cs[i]? = some c → ARel h.nx μ w c (vs i)) →
    ∃ ds h' μ', K ds h' ∧ HRel h' μ' w ∧ Ext h.nx μ w μ' w ∧ h'.nx = h.nx ∧ ds.length = cs.length ∧ ∀ (i : Nat) (d : D), ds[i]? = some d → DRel (okOf μ') w d (vs i)
  | [], h, μ, w, K, vs, hz, hh, hr => ⟨[], h, μ, hz, hh, .refl _ _ _ hh.hi, rfl, rfl, fun i d h => by simp at h⟩
  | x :: r, h, μ, w, K, vs, hz, hh, hr => by
    simp only [fzc] at hz
    obtain ⟨y, h1, μ1, hz, g1, g2, g3, g4⟩ := fzm_sound hz hh (hr 0 _ rfl)
    obtain ⟨q, h2, μ2, hz, k1, k2, k3, k4, k5⟩ := fzc_sound r (fun i => vs (i + 1)) hz g1 fun i c e1 => (hr (i + 1) c e1).ext g2 (by omega)
    refine ⟨y :: q, h2, μ2, hz, k1, g2.trans (by omega) k2, by omega, by simp [k4], fun i d e1 => ?_⟩
    cases i with
    | zero => simp at e1; subst e1; exact g4.keep k2.keeps
    | succ i => exact k5 i d (by simpa using e1)
theorem fz1_sound {h : Heap} {μ : Mu} {w : World} {x : AV} {v : Value} {K : AV → Heap → Prop} (hz : fz1 h x K) (hh : HRel h μ w) (hx : ARel h.nx μ w x v) :
    ∃ x' h' μ', K x' h' ∧ HRel h' μ' w ∧ Ext h.nx μ w μ' w ∧ h'.nx = h.nx ∧ ARel h'.nx μ' w x' v ∧ AV.dry x' = true := by
  unfold fz1 at hz
  split at hz
  · rename_i b ver sz
    split at hz
    · rename_i e sz' l ver' hget
      cases hc : Nat.beq sz sz' with
      | false => rw [hc] at hz; cases hz
      | true =>
        rw [hc] at hz
        obtain ⟨e1, hz⟩ := hz
        have e2 := Nat.eq_of_beq_eq_true hc
        subst e1 e2
        obtain ⟨h1, h2⟩ := hh.drop b
        exact ⟨_, _, _, hz, h1, h2, rfl, own_list hh hget hx, rfl⟩
    · rename_i e e2 sz2 ll ver' hole hget
      split at hz
      · cases hc : Nat.beq sz 1 with
        | false => rw [hc] at hz; cases hz
        | true =>
          rw [hc] at hz
          obtain ⟨e1, hz⟩ := hz
          have e2 := Nat.eq_of_beq_eq_true hc
          subst e1
          obtain ⟨h1, h2⟩ := hh.drop b
          exact ⟨_, _, _, hz, h1, h2, rfl, nest_list hh e2 hget hx, rfl⟩
      · cases hz
    · cases hz
  · rename_i b off
    split at hz
    · rename_i cs t hget
      cases hc : Nat.beq off 0 with
      | false => rw [hc] at hz; cases hz
      | true =>
        rw [hc, cond_true] at hz
        have := Nat.eq_of_beq_eq_true hc; subst this
        obtain ⟨h1, h2⟩ := hh.drop b
        have ho := hh.obj b
        rw [hget] at ho
        obtain ⟨bd, C, hb, hver, hg, hl, hr⟩ := ho
        have hcs : ∀ (i : Nat) (c : AV), cs[i]? = some c → ∃ v, C[i]? = some v := fun i c hi => by
          have hlt := (List.getElem?_eq_some_iff.1 hi).1
          exact ⟨C[i]'(by omega), Array.getElem?_eq_getElem _⟩
        obtain ⟨ds, h', μ', hK, g1, g2, g3, g4, g5⟩ := fzc_sound cs (fun i => C.getD i undef) hz h1 fun i c hi => by
          obtain ⟨v, hv⟩ := hcs i c hi
          have : C.getD i undef = v := by rw [Array.getD_eq_getD_getElem?, hv]; rfl
          rw [this]
          exact (hr i c v hi hv).1.ext h2 (Nat.le_refl _)
        have hlt : bd.blk < w.heap.size := (Array.getElem?_eq_some_iff.1 hg).1
        have hok : okOf μ' bd.blk := g2.keeps.oks _ hlt (drop_ok hh hb (Bind.real0 hver))
        have hext : Ext h.nx μ w μ' w := h2.trans (Nat.le_refl _) g2
        cases hx with
        | ptr _ _ a hbn ha =>
        have := ha bd hb hver; subst this
        have hcell : ∀ (j : Nat) (u : D), ds[j]? = some u → ∃ c v, cs[j]? = some c ∧ C[j]? = some v := fun j u hj => by
          have hlt2 : j < cs.length := by have := (List.getElem?_eq_some_iff.1 hj).1; omega
          obtain ⟨v, hv⟩ := hcs j _ (List.getElem?_eq_getElem hlt2)
          exact ⟨_, v, List.getElem?_eq_getElem hlt2, hv⟩
        refine ⟨_, h', μ', hK, g1, hext, g3, .d _ _ (.ptr ds ⟨bd.blk, 0, none⟩ (fun j => C.getD j undef) hok (fun j u hj => ?_) (fun j u hj => ?_) g5 hlt), rfl⟩
        · obtain ⟨c, v, e1, e2⟩ := hcell j u hj
          have h5 := g5 j u hj
          rw [Array.getD_eq_getD_getElem?, e2] at h5
          have h6 := (hr j c v e1 e2).2
          cases u with
          | agg cs' => cases h5; cases h6
          | _ => rfl
        · obtain ⟨c, v, e1, e2⟩ := hcell j u hj
          rw [Array.getD_eq_getD_getElem?, e2]
          by_cases hj0 : j = 0 <;> simp [World.cell?, Addr.add, hj0, hg] <;> first | exact e2 | (subst hj0; exact e2)
    · cases hz
  · rename_i b
    split at hz
    · rename_i sh es clock hget
      obtain ⟨h1, h2⟩ := hh.drop b
      exact ⟨_, _, _, hz, h1, h2, rfl, .d _ _ (map_data hh hget hx), rfl⟩
    · cases hz
  · exact ⟨_, _, μ, hz, hh, .refl _ _ _ hh.hi, rfl, hx, rfl⟩
  · cases hx
    exact ⟨_, _, μ, hz, hh, .refl _ _ _ hh.hi, rfl, .d _ _ (.bool _), rfl⟩
  · cases hx
    exact ⟨_, _, μ, hz, hh, .refl _ _ _ hh.hi, rfl, .d _ _ (.bool _), rfl⟩
  · cases hz

theorem fzs_sound : ∀ (cs : List AV) {h : Heap} {μ : Mu} {w : World} {K : List AV → Heap → Prop} (vs : List Value), fzs h cs K → HRel h μ w → vs.length = cs.length →
    (∀ (i : Nat) (c : AV) (v : Value), cs[i]? = some c → vs[i]? = some v → ARel h.nx μ w c v) →
    ∃ cs' h' μ', K cs' h' ∧ HRel h' μ' w ∧ Ext h.nx μ w μ' w ∧ h'.nx = h.nx ∧ vs.length = cs'.length ∧ (∀ (i : Nat) (c : AV) (v : Value), cs'[i]? = some c → vs[i]? = some v → ARel h'.nx μ' w c v) ∧ AV.drys cs' = true
  | [], h, μ, w, K, vs, hz, hh, hl, hr => ⟨[], h, μ, hz, hh, .refl _ _ _ hh.hi, rfl, hl, hr, rfl⟩
  | x :: r, h, μ, w, K, vs, hz, hh, hl, hr => by
    cases vs with
    | nil => simp at hl
    | cons v vs =>
      simp only [fzs] at hz
      obtain ⟨y, h1, μ1, hz, g1, g2, g3, g4, g5⟩ := fz1_sound hz hh (hr 0 _ _ rfl rfl)
      obtain ⟨q, h2, μ2, hz, k1, k2, k3, k4, k5, k6⟩ := fzs_sound r vs hz g1 (by simpa using hl) fun i c v e1 e2 => (hr (i + 1) c v e1 e2).ext g2 (by omega)
      refine ⟨y :: q, h2, μ2, hz, k1, g2.trans (by omega) k2, by omega, by simp [k4], fun i c u e1 e2 => ?_, by simp only [AV.drys, g5, k6]; rfl⟩
      cases i with
      | zero => simp at e1 e2; subst e1 e2; exact g4.ext k2 (by omega)
      | succ i => exact k5 i c u (by simpa using e1) (by simpa using e2)

theorem fz_sound {h : Heap} {μ : Mu} {w : World} {x : AV} {v : Value} {K : AV → Heap → Prop} (hz : fz h x K) (hh : HRel h μ w) (hx : ARel h.nx μ w x v) :
    ∃ x' h' μ', K x' h' ∧ HRel h' μ' w ∧ Ext h.nx μ w μ' w ∧ h'.nx = h.nx ∧ ARel h'.nx μ' w x' v ∧ AV.dry x' = true := by
  unfold fz at hz
  split at hz
  · cases hx with
    | tup _ vs hl hr =>
      obtain ⟨q, h', μ', hK, g1, g2, g3, g4, g5, g6⟩ := fzs_sound _ vs hz hh hl hr
      exact ⟨_, h', μ', hK, g1, g2, g3, .tup _ _ g4 g5, g6⟩
  · cases hx with
    | agg _ vs hl ho hr =>
      obtain ⟨q, h', μ', hK, g1, g2, g3, g4, g5, g6⟩ := fzs_sound _ vs hz hh hl hr
      have hd : ∃ y, K y h' ∧ AV.dry y = true ∧ ∀ n μ w v, ARel n μ w (.agg q) v → ARel n μ w y v := by
        unfold AV.norm at hK
        dsimp only at hK
        split at hK
        · rename_i ds hds
          exact ⟨_, hK, rfl, fun n μ w v hx => .d _ _ (toD_rel hx (by simp only [toD, hds]))⟩
        · exact ⟨_, hK, g6, fun _ _ _ _ hx => hx⟩
      obtain ⟨y, k1, k2, k3⟩ := hd
      exact ⟨y, h', μ', k1, g1, g2, g3, k3 _ _ _ _ (.agg _ _ g4 ho g5), k2⟩
  · exact fz1_sound hz hh hx

/-- What a pure function returns. -/
def QFz (R : AV → Prop) (x : AV) (h : Heap) : Prop := fz h x fun y _ => R y

theorem PCall.of {P : Program} {f : FuncId} {args : List AV} {R : AV → Prop} (h : ACall P f args Heap.none (QFz R)) : PCall P f args R := by
  refine ⟨fun μ w vs h1 h2 h3 => ?_⟩
  have hm : ∀ e w', Aimed Heap.none μ w (QFz R) e w' → Aimed Heap.none μ w (fun x _ => AV.dry x = true ∧ R x) e w' := by
    intro e w' ⟨r, h', μ', v, he, hR, g1, g2, g3, g4⟩
    obtain ⟨y, h2, μ2, hR, k1, k2, k3, k4, k5⟩ := fz_sound hR g1 g4
    exact ⟨y, h2, μ2, v, he, ⟨k5, hR⟩, k1, g2.trans g3 k2, by omega, k4⟩
  rcases h.go μ w vs h1 h2 h3 with ⟨hpl, hc⟩ | ⟨v, w', hc, ha⟩
  · exact .inl ⟨hpl, hc.mono hm⟩
  · exact .inr ⟨v, w', hc, hm _ _ ha⟩

/-- A pure function's contract from its body. -/
theorem PCall.intro {P : Program} {T : Tab} (hT : TabOk P T) {f : FuncId} {args : List AV} {R : AV → Prop} (fn : Func) (c : Code) (hf : P.funcs[f]? = some fn) (hb : fn.body = some c) (hnm : (fn.name == "runtime.NumGoroutine") = false) (hN : Nat.ble args.length fn.ntmps = true)
    (hw : ∀ z, AW P c fn.ntmps ⟨argTm args 0, Heap.none, none, z⟩ (QRet T fn.results.toList (QFz R))) : PCall P f args R :=
  .of (.intro hT fn c hf hb hnm hN hw)

def hasOwn : List AV → Bool
  | [] => false
  | .own _ _ _ :: _ => true
  | _ :: r => hasOwn r
/-- A call that is given rows of one's own: they are given away. -/
theorem ACall.freeze {P : Program} {f : FuncId} {args : List AV} {h : Heap} {K : AV → Heap → Prop} (_ : hasOwn args = true) (hk : fzs h args fun args' h' => ACall P f args' h' K) : ACall P f args h K := by
  refine ⟨fun μ w vs hh hl hr => ?_⟩
  obtain ⟨args', h', μ', hc, g1, g2, g3, g4, g5, _⟩ := fzs_sound args vs hk hh hl hr
  have hm : ∀ e w', Aimed h' μ' w K e w' → Aimed h μ w K e w' := by
    intro e w' ⟨r, h2, μ2, v, he, hK, k1, k2, k3, k4⟩
    exact ⟨r, h2, μ2, v, he, hK, k1, g2.trans (by omega) (g3 ▸ k2), by omega, k4⟩
  rcases hc.go μ' w vs g1 g4 g5 with ⟨hp, hc⟩ | ⟨v, w', hc, ha⟩
  · exact .inl ⟨hp, hc.mono hm⟩
  · exact .inr ⟨v, w', hc, hm _ _ ha⟩
end Go.Pm
end
section
/- A program's table of types, from a list of its rows. -/
namespace Go.Pm

def zD1 : Value → Option D
  | .int k n => some (.int k n)
  | .bool b => some (.bool b)
  | .string s => cond (Nat.beq s.data.toList.length 0) (some (.str [])) none
  | .float k b => some (.float k b)
  | .pointer none => some .nilp
  | .slice none 0 0 => some .nils
  | .map none => some .nilmap
  | .nilFunc => some .nilfn
  | .nilIface => some .nili
  | _ => none
def zDs : List Value → Option (List D)
  | [] => some []
  | v :: r => match zD1 v, zDs r with
    | some d, some q => some (d :: q)
    | _, _ => none
def zD : Value → Option D
  | .agg vs => match zDs vs.toList with
    | some l => some (.agg l)
    | none => none
  | v => zD1 v

theorem zD1_rel {v : Value} {d : D} (h : zD1 v = some d) (ok : Nat → Prop) (w : World) : DRel ok w d v ∧ d.one = true := by
  unfold zD1 at h
  split at h
  · cases h; exact ⟨.int _ _, rfl⟩
  · cases h; exact ⟨.bool _, rfl⟩
  · rename_i s
    cases hb : Nat.beq s.data.toList.length 0 with
    | false => rw [hb] at h; cases h
    | true =>
      rw [hb] at h
      cases h
      have := List.eq_nil_of_length_eq_zero (Nat.eq_of_beq_eq_true hb)
      have e : s = ⟨([] : List UInt8).toArray⟩ := by
        apply ByteArray.ext; apply Array.ext'; rw [this]
      rw [e]
      exact ⟨.str [] (by simp), rfl⟩
  · cases h; exact ⟨.float _ _, rfl⟩
  · cases h; exact ⟨.nilp, rfl⟩
  · cases h; exact ⟨.nils, rfl⟩
  · cases h; exact ⟨.nilmap, rfl⟩
  · cases h; exact ⟨.nilfn, rfl⟩
  · cases h; exact ⟨.nili, rfl⟩
  · cases h

theorem zDs_rel : ∀ {vs : List Value} {l : List D}, zDs vs = some l → vs.length = l.length ∧ ∀ (i : Nat) (c : D), l[i]? = some c → ∃ v, vs[i]? = some v ∧ zD1 v = some c
  | [], l, h => by simp [zDs] at h; subst h; simp
  | v :: r, l, h => by
    simp only [zDs] at h
    split at h
    · rename_i d q h1 h2
      cases h
      obtain ⟨g1, g2⟩ := zDs_rel h2
      refine ⟨by simp [g1], fun i c hc => ?_⟩
      cases i with
      | zero => simp at hc; subst hc; exact ⟨v, rfl, h1⟩
      | succ i => simp at hc; simpa using g2 i c hc
    · cases h

theorem zD_rel {v : Value} {d : D} (h : zD v = some d) (ok : Nat → Prop) (w : World) : DRel ok w d v := by
  unfold zD at h
  split at h
  · rename_i vs
    split at h
    · rename_i l hl
      cases h
      obtain ⟨h1, h2⟩ := zDs_rel hl
      have := DRel.agg (ok := ok) (w := w) l vs.toList h1 (fun i c hc => by
        obtain ⟨v, _, hv⟩ := h2 i c hc
        exact (zD1_rel hv ok w).2) (fun i c v hc hv => by
        obtain ⟨v', hv', hd⟩ := h2 i c hc
        rw [hv] at hv'; cases hv'
        exact (zD1_rel hd ok w).1)
      simpa using this
    · cases h
  · exact (zD1_rel h ok w).1

structure TyOk (P : Program) (t : TypeId) (y : Ty) : Prop where
  und : ∃ d, P.underlying t = some d ∧ tdOf d = y.td ∧ (y.plain = true → noBlank d = true ∧ P.stoodInHeld t = false ∧ P.eqGuardType P.depth t = false)
  info : ∃ i z, P.info? t = some i ∧ i.size = y.size ∧ i.bytes = y.bytes ∧ i.comparable = y.cmp ∧ i.zero = some z ∧ zD z = some y.zero ∧ z.cells.size = y.size

def tabOf : List (TypeId × Ty) → Tab
  | [], _ => none
  | (i, y) :: r, t => cond (Nat.beq t i) (some y) (tabOf r t)

def AllOk (P : Program) : List (TypeId × Ty) → Prop
  | [] => True
  | (i, y) :: r => TyOk P i y ∧ AllOk P r

theorem tabOf_ok {P : Program} : ∀ {L : List (TypeId × Ty)}, AllOk P L → ∀ t y, tabOf L t = some y → TyOk P t y
  | [], _, t, y, h => by cases h
  | (i, z) :: r, hL, t, y, h => by
    simp only [tabOf] at h
    cases hb : Nat.beq t i with
    | true =>
      rw [hb] at h
      cases h
      have := Nat.eq_of_beq_eq_true hb; subst this
      exact hL.1
    | false =>
      rw [hb] at h
      exact tabOf_ok hL.2 t y h

theorem TabOk.of {P : Program} {L : List (TypeId × Ty)} (h : AllOk P L) : TabOk P (tabOf L) := by
  refine ⟨fun t y ht => (tabOf_ok h t y ht).und, fun t y ht => ?_⟩
  obtain ⟨i, z, h1, h2, h3, h4, h5, h6, h7⟩ := (tabOf_ok h t y ht).info
  exact ⟨i, z, h1, h2, h3, h4, h5, fun ok w => zD_rel h6 ok w, h7⟩
end Go.Pm
end
section
/- Regions that draw their order: pure operations may run in any. -/
namespace Go.Pm

section
variable {P : Program} {T : Tab}

theorem bop_congr {s s' : St} {op : Op} {K : AV → Heap → Prop} (hh : s'.hp = s.hp) (h : ∀ x ∈ op.operands.toList, ev s' x = ev s x) : bop T s' op K = bop T s op K := by
  cases op with
  | build t ps =>
    have e : (ps.toList.map fun p => (p.1, ev s' p.2)) = ps.toList.map fun p => (p.1, ev s p.2) := by
      apply List.map_congr_left
      intro p hp
      rw [h p.2 (by simp only [Op.operands]; exact List.mem_map.2 ⟨p, hp, rfl⟩)]
    simp only [bop, aop, e, hh]
  | buildSlice t n ps =>
    have e : (ps.toList.map fun p => (p.1, ev s' p.2)) = ps.toList.map fun p => (p.1, ev s p.2) := by
      apply List.map_congr_left
      intro p hp
      rw [h p.2 (by simp only [Op.operands]; exact List.mem_map.2 ⟨p, hp, rfl⟩)]
    simp only [bop, aop, e, hh]
  | makeFunc f first caps =>
    have e : caps.toList.map (ev s') = caps.toList.map (ev s) := by
      apply List.map_congr_left
      intro p hp
      exact h p (by simp [Op.operands] at hp ⊢; exact .inr hp)
    cases f <;> simp only [bop, aop, apure, e, hh]
  | makeMap t r =>
    cases r with
    | none => simp only [bop, aop, hh, Option.map_none]
    | some x => simp only [bop, aop, hh, Option.map_some, h x (by simp [Op.operands])]
  | slice t x lo hi mx =>
    have hx := h x (by simp [Op.operands])
    have e1 : lo.map (ev s') = lo.map (ev s) := by
      cases lo with
      | none => rfl
      | some y => simp only [Option.map_some, h y (by simp [Op.operands])]
    have e2 : hi.map (ev s') = hi.map (ev s) := by
      cases hi with
      | none => rfl
      | some y => simp only [Option.map_some, h y (by simp [Op.operands])]
    cases mx <;> simp only [bop, aop, apure, hx, e1, e2, hh]
  | call c =>
    have ha : ∀ y ∈ c.args.toList, ev s' y = ev s y := by
      intro y hy
      exact h y (by simp only [Op.operands, Call.operands, Array.toList_append]; exact List.mem_append_right _ hy)
    cases hC : c.callee with
    | builtin bi =>
      rcases hL : c.args.toList with _ | ⟨x, _ | ⟨y, _ | ⟨z, r⟩⟩⟩ <;> rcases hA : c.argTypes.toList with _ | ⟨t, _ | ⟨t2, _ | ⟨t3, q⟩⟩⟩ <;> (try have hx := ha x (by rw [hL]; simp)) <;> (try have hy := ha y (by rw [hL]; simp)) <;>
        (try have hz := ha z (by rw [hL]; simp)) <;> (try have hr : r.map (ev s') = r.map (ev s) := List.map_congr_left fun z hz => ha z (by rw [hL]; simp [hz])) <;>
        cases bi <;> simp only [bop, aop, apure, hh, hL, hA, hC] <;> (try simp only [*, List.map_cons, List.map_nil])
    | _ => simp only [bop, aop, apure, hC]
  | _ => simp [Op.operands] at h <;> simp_all [bop, aop, apure]

def Agree (A : List Operand) (s s' : St) : Prop := s'.hp = s.hp ∧ ∀ x ∈ A, ev s' x = ev s x

theorem Agree.slot {A : List Operand} {s s' : St} (h : Agree A s s') (t : Nat) (y : AV) : Agree A ⟨(t, y) :: s.tm, s.hp, s.rnd, s.df⟩ ⟨(t, y) :: s'.tm, s'.hp, s'.rnd, s'.df⟩ := by
  refine ⟨h.1, fun x hx => ?_⟩
  have := h.2 x hx
  cases x with
  | tmp d =>
    simp only [ev, look_cons] at this ⊢
    by_cases e : d = t
    · rw [if_pos e, if_pos e]
    · rw [if_neg e, if_neg e]; exact this
  | _ => rfl

theorem ares_congr {A : List Operand} {K K' : St → Prop} (hK : ∀ s s', Agree A s s' → K s → K' s') : ∀ (l : List Operand) (s s' : St), (∀ x ∈ l, x ∈ A) → Agree A s s' → ares l s K → ares l s' K'
  | [], s, s', _, ha, h => hK s s' ha h
  | x :: r, ⟨tm, hp, rnd, df⟩, ⟨tm', hp', rnd', df'⟩, hl, ha, h => by
    have hr : ∀ x ∈ r, x ∈ A := fun y hy => hl y (by simp [hy])
    simp only [ares] at h ⊢
    split at h
    · rename_i t
      have ht := ha.2 (.tmp t) (hl _ (by simp))
      simp only [ev] at ht
      rw [ht]
      split at h
      · rename_i c y z he
        exact ⟨h.1, ares_congr hK r _ _ hr (ha.slot t y) h.2⟩
      · exact ares_congr hK r _ _ hr ha h
    · cases x <;> first | exact ares_congr hK r _ _ hr ha h | simp_all

theorem aval_congr {s s' : St} {op : Op} {K : AV → Heap → Prop} (ha : Agree op.operands.toList s s') (hk : aval P T op s K) : aval P T op s' K := by
  cases op with
  | pick c x y =>
    simp only [aval] at hk ⊢
    rw [ha.1, ha.2 c (by simp [Op.operands]), ha.2 x (by simp [Op.operands]), ha.2 y (by simp [Op.operands])]
    exact hk
  | call c =>
    simp only [aval] at hk ⊢
    refine ares_congr (fun s s' ha h => ?_) _ s s' (fun x hx => hx) ha hk
    have hb := bop_congr (T := T) (op := .call c) (K := K) ha.1 ha.2
    have hargs : c.args.toList.map (ev s') = c.args.toList.map (ev s) := by
      apply List.map_congr_left
      intro y hy
      exact ha.2 y (by simp only [Op.operands, Call.operands, Array.toList_append]; exact List.mem_append_right _ hy)
    cases hC : c.callee with
    | value f =>
      have he := ha.2 f (by simp [Op.operands, Call.operands, hC])
      simp only [hC] at h ⊢
      rw [he, hargs, ha.1]
      exact h
    | _ =>
      simp only [hC] at h ⊢
      rw [hb]; exact h
  | _ =>
    simp only [aval] at hk ⊢
    exact ares_congr (fun s s' ha h => by rw [bop_congr (T := T) ha.1 ha.2]; exact h) _ s s' (fun x hx => hx) ha hk
end
end Go.Pm
end
