import Derived.Test.YthglohpeijfcfaaAmVb
import Derived.Test.YthglohpeijfcfaaAmX
set_option linter.unusedVariables false
set_option linter.unusedSimpArgs false
set_option linter.unusedSectionVars false
namespace Go.Proofs.Yth
open Go Go.Am
set_option maxRecDepth 20000
set_option maxHeartbeats 2000000
/-- a slice of one's own, with its block -/
def OwO {α : Type} (e : TypeId) (enc : α → List Value) (h0 h : Heap) (o : Option Nat) (xs : List α) (v : Value) : Prop :=
  v = .slice (o.map fun b => ⟨b, 0, none⟩) xs.length xs.length ∧ (match o with
    | none => xs = []
    | some b => h.f b = .row true e (xs.flatMap enc) ∧ h0.n ≤ b ∧ b < h.n)
theorem OwO.own {α : Type} {e : TypeId} {enc : α → List Value} {h0 h : Heap} {o : Option Nat} {xs : List α} {v : Value} (H : OwO e enc h0 h o xs v) : OwA e enc h0 h v xs := by
  obtain ⟨rfl, z⟩ := H
  cases o with
  | none => exact ⟨none, rfl, .inl ⟨rfl, z⟩⟩
  | some b => exact ⟨_, rfl, .inr ⟨b, rfl, z.1, z.2.1, z.2.2⟩⟩
theorem OwO.ext {α : Type} {e : TypeId} {enc : α → List Value} {h0 h h' : Heap} {o : Option Nat} {xs : List α} {v : Value} (H : OwO e enc h0 h o xs v) (E : Ext h h') : OwO e enc h0 h' o xs v := by
  obtain ⟨rfl, z⟩ := H
  refine ⟨rfl, ?_⟩
  cases o with
  | none => exact z
  | some b => exact ⟨by rw [E.f b z.2.2]; exact z.1, z.2.1, Nat.lt_of_lt_of_le z.2.2 E.n⟩
theorem OwO.setNe {α : Type} {e : TypeId} {enc : α → List Value} {h0 h : Heap} {o : Option Nat} {xs : List α} {v : Value} (H : OwO e enc h0 h o xs v) {b : Nat} (c : Blk) (hb : o ≠ some b) : OwO e enc h0 (h.set b c) o xs v := by
  obtain ⟨rfl, z⟩ := H
  refine ⟨rfl, ?_⟩
  cases o with
  | none => exact z
  | some b' => exact ⟨by rw [f_set, if_neg (fun q => hb (by rw [q]))]; exact z.1, z.2.1, z.2.2⟩
theorem OwO.lt {α : Type} {e : TypeId} {enc : α → List Value} {h0 h : Heap} {o : Option Nat} {xs : List α} {v : Value} (H : OwO e enc h0 h o xs v) {m : Nat} (hm : h.n ≤ m) : o ≠ some m := by
  intro q; subst q; have := H.2.2.2; omega
theorem OwO.nil {α : Type} {e : TypeId} {enc : α → List Value} {h0 h : Heap} : OwO e enc h0 h none ([] : List α) (.slice none 0 0) := ⟨rfl, rfl⟩
theorem OwO.keep {α : Type} {e : TypeId} {enc : α → List Value} {h0 h : Heap} {o : Option Nat} {xs : List α} {v : Value} (H : OwO e enc h0 h o xs v) {b : Nat} (c0 c1 : Blk) (hb : o ≠ some b) : OwO e enc h0 (((h.new c0).set b .dead).new c1) o xs v :=
  ((H.ext (Ext.new _ _)).setNe _ hb).ext (Ext.new _ _)
theorem OwO.push {α : Type} {e : TypeId} {enc : α → List Value} {h0 h : Heap} {b : Nat} {xs : List α} {v : Value} (H : OwO e enc h0 h (some b) xs v) (c0 : Blk) (x : α) {cells : List Value} (hc : cells = (xs ++ [x]).flatMap enc) :
    OwO e enc h0 (((h.new c0).set b .dead).new (.row true e cells)) (some (h.n + 1)) (xs ++ [x]) (.slice (some ⟨h.n + 1, 0, none⟩) (xs.length + 1) (xs.length + 1)) := by
  obtain ⟨_, _, h1, h2⟩ := H
  refine ⟨by simp, ?_, ?_, ?_⟩
  · simp [hc]
  · omega
  · simp
theorem OwO.push0 {α : Type} {e : TypeId} {enc : α → List Value} {h0 h : Heap} (hn : h0.n ≤ h.n) (c0 : Blk) (x : α) {cells : List Value} (hc : cells = enc x) :
    OwO e enc h0 ((h.new c0).new (.row true e cells)) (some (h.n + 1)) [x] (.slice (some ⟨h.n + 1, 0, none⟩) 1 1) := by
  refine ⟨by simp, ?_, ?_, ?_⟩
  · simp [hc]
  · omega
  · simp
theorem ext_push {h0 h : Heap} (E : Ext h0 h) {b : Nat} (hb : h0.n ≤ b) (c0 c1 c2 : Blk) : Ext h0 (((h.new c0).set b c2).new c1) := ((E.newOf _).setOf hb _).newOf _
/-- two blocks, if there are two, are not one -/
def Ap (a b : Option Nat) : Prop := ∀ n, a = some n → b ≠ some n
/-- a venue of one's own -/
def VenO (h0 h : Heap) (v : VenR) (a b c : Option Nat) (cs : List Value) : Prop := ∃ s k p, cs = [s, .int .i64 v.gap, .int .i64 v.radius, k, p] ∧ OwO 34 seatC h0 h a v.seats s ∧ OwO 3 intC h0 h b v.kills k ∧ OwO 39 poleC h0 h c v.poles p ∧ Ap a b ∧ Ap a c ∧ Ap b c
theorem VenO.ven {h0 h : Heap} {v : VenR} {a b c : Option Nat} {cs : List Value} (H : VenO h0 h v a b c cs) : VenC h v cs := by
  obtain ⟨s, k, p, rfl, h1, h2, h3, _⟩ := H
  exact ⟨s, k, p, rfl, h1.own.sl, h2.own.sl, h3.own.sl⟩
/-- what a made venue is -/
structure Made (i : Nat) (v : VenR) (row x : Int) : Prop where
  gap : v.gap = 10
  radius : 0 ≤ v.radius ∧ v.radius ≤ 24
  len : v.seats.length = i + 1
  klen : v.kills.length ≤ i
  plen : v.poles.length ≤ i
  last : ∃ s, v.seats[i]? = some s ∧ s.row = row ∧ s.x = x
  rowB : 0 ≤ row ∧ row ≤ i
  xB : 0 ≤ x ∧ x ≤ 15 * i
  seat : ∀ s ∈ v.seats, 0 ≤ s.row ∧ s.row ≤ i ∧ 0 ≤ s.x ∧ s.x ≤ 15 * i ∧ s.y = 10 * s.row ∧ 0 ≤ s.kind ∧ s.kind ≤ 2
  up : ∀ j s t, v.seats[j]? = some s → v.seats[j + 1]? = some t → lessS s t = true
  kill : ∀ a ∈ v.kills, 1 ≤ a ∧ a ≤ i
  kup : ∀ j a b, v.kills[j]? = some a → v.kills[j + 1]? = some b → a < b
  pole : ∀ p ∈ v.poles, 0 ≤ p.x ∧ p.x ≤ 15 * i ∧ 0 ≤ p.y ∧ p.y ≤ 10 * i ∧ 1 ≤ p.r ∧ p.r ≤ 12
def MkS (lv : Value) (most : Int) (h : Heap) (i : Nat) (v : VenR) (row x : Int) (σ : St) : Prop := ∃ (a b c : Option Nat) (cs : List Value), Ext h σ.m.h ∧ VenO h σ.m.h v a b c cs ∧ a ≠ none ∧
  σ.t.get 0 = some lv ∧ σ.t.get 1 = some (.int .i64 most) ∧ σ.t.get 4 = some (.pointer (some ⟨4, 0, some 0⟩)) ∧ σ.t.get 5 = some (.pointer (some ⟨5, 0, some 0⟩)) ∧ σ.t.get 6 = some (.int .i64 row) ∧ σ.t.get 7 = some (.int .i64 x) ∧ σ.t.get 8 = some (.int .i64 (i : Nat)) ∧
  σ.m.x.look 4 = some (26, zVen) ∧ σ.m.x.look 5 = some (26, cs)
def J20 (lv : Value) (most : Int) (h : Heap) (n : Nat) (σ : St) : Prop := ∃ (i : Nat) (v : VenR) (row x : Int), n = (most - i).toNat ∧ (i : Int) < most ∧ Made i v row x ∧ MkS lv most h i v row x σ
def stepR (row x row' x' : Int) : Prop := (row' = row ∧ x < x' ∧ x' ≤ x + 15) ∨ (row' = row + 1 ∧ x' = 0)
theorem up_snoc {α : Type} {r : α → α → Prop} {l : List α} {z : α} (h : ∀ j s t, l[j]? = some s → l[j + 1]? = some t → r s t) (hz : ∀ s, l.getLast? = some s → r s z) : ∀ j s t, (l ++ [z])[j]? = some s → (l ++ [z])[j + 1]? = some t → r s t := by
  intro j s t h1 h2
  rcases Nat.lt_trichotomy (j + 1) l.length with q | q | q
  · rw [List.getElem?_append_left (by omega)] at h1 h2; exact h j s t h1 h2
  · rw [List.getElem?_append_left (by omega)] at h1
    rw [List.getElem?_append_right (by omega), q] at h2
    simp at h2
    subst h2
    refine hz s ?_
    rw [List.getLast?_eq_getElem?, ← q]; exact h1
  · rw [List.getElem?_eq_none (by simp; omega)] at h2; cases h2
theorem made_step {i : Nat} {v : VenR} {row x : Int} (M : Made i v row x) {row' x' : Int} (hst : stepR row x row' x') {k : Int} (hk0 : 0 ≤ k) (hk2 : k ≤ 2) {ks : List Int} {ps : List PoleR} {r : Int}
    (hks : ks = v.kills ∨ ks = v.kills ++ [((i + 1 : Nat) : Int)]) (hps : ps = v.poles ∨ ∃ r, 1 ≤ r ∧ r ≤ 12 ∧ ps = v.poles ++ [⟨x', 10 * row', r⟩]) (hr : r = v.radius ∨ 0 ≤ r ∧ r ≤ 24) :
    Made (i + 1) ⟨v.seats ++ [⟨row', x', 10 * row', k⟩], v.gap, r, ks, ps⟩ row' x' := by
  have hrB := M.rowB
  have hxB := M.xB
  have hrow1 : 0 ≤ row' ∧ row' ≤ i + 1 := by rcases hst with h | h <;> omega
  have hx1 : 0 ≤ x' ∧ x' ≤ 15 * (i + 1) := by rcases hst with h | h <;> omega
  refine ⟨M.gap, ?_, by simp [M.len], ?_, ?_, ⟨⟨row', x', 10 * row', k⟩, by rw [List.getElem?_append_right (by simp [M.len]), M.len]; simp, rfl, rfl⟩, by omega, by omega, ?_, ?_, ?_, ?_, ?_⟩
  · rcases hr with rfl | h
    · exact M.radius
    · exact h
  · have := M.klen
    rcases hks with rfl | rfl <;> simp <;> omega
  · have := M.plen
    rcases hps with rfl | ⟨_, _, _, rfl⟩ <;> simp <;> omega
  · intro s hs
    rcases List.mem_append.1 hs with h | h
    · obtain ⟨z1, z2, z3, z4, z5, z6⟩ := M.seat s h; exact ⟨z1, by omega, z3, by omega, z5, z6⟩
    · obtain rfl := List.mem_singleton.1 h
      exact ⟨hrow1.1, by simp only; omega, hx1.1, by simp only; omega, rfl, hk0, hk2⟩
  · refine up_snoc M.up (fun s hs => ?_)
    obtain ⟨s0, e0, e1, e2⟩ := M.last
    rw [List.getLast?_eq_getElem?, M.len, Nat.add_sub_cancel, e0] at hs
    obtain rfl := Option.some.inj hs
    rw [lessS_iff]
    simp only
    rcases hst with h | h <;> omega
  · intro a ha
    rcases hks with rfl | rfl
    · have := M.kill a ha; omega
    · rcases List.mem_append.1 ha with h | h
      · have := M.kill a h; omega
      · obtain rfl := List.mem_singleton.1 h
        omega
  · rcases hks with rfl | rfl
    · exact M.kup
    · refine up_snoc (r := fun a b => a < b) M.kup (fun s hs => ?_)
      have := M.kill s (List.mem_of_getLast? hs)
      omega
  · intro p hp
    rcases hps with rfl | ⟨r', h1, h2, rfl⟩
    · have := M.pole p hp; omega
    · rcases List.mem_append.1 hp with h | h
      · have := M.pole p h; omega
      · obtain rfl := List.mem_singleton.1 h
        simp only; omega
def M1 (lv : Value) (most : Int) (h : Heap) (i : Nat) (v : VenR) (row x u : Int) (σ : St) : Prop := ∃ row' x', stepR row x row' x' ∧ MkS lv most h i v row' x' σ ∧ σ.t.get 9 = some (.int .u64 u)
def M2 (lv : Value) (most : Int) (h : Heap) (i : Nat) (v : VenR) (row x u : Int) (σ : St) : Prop := ∃ k, 0 ≤ k ∧ k ≤ 2 ∧ MkS lv most h i v row x σ ∧ σ.t.get 9 = some (.int .u64 u) ∧ σ.t.get 10 = some (.pointer (some ⟨10, 0, some 0⟩)) ∧ σ.m.x.look 10 = some (34, seatC ⟨row, x, 10 * row, k⟩)
def M3 (lv : Value) (most : Int) (h : Heap) (i : Nat) (v : VenR) (row x u : Int) (σ : St) : Prop := ∃ ks, (ks = v.kills ∨ ks = v.kills ++ [((i + 1 : Nat) : Int)]) ∧ MkS lv most h i { v with kills := ks } row x σ ∧ σ.t.get 9 = some (.int .u64 u)
def M4 (lv : Value) (most : Int) (h : Heap) (i : Nat) (v : VenR) (row x u : Int) (σ : St) : Prop := ∃ ps, (ps = v.poles ∨ ∃ r, 1 ≤ r ∧ r ≤ 12 ∧ ps = v.poles ++ [⟨x, 10 * row, r⟩]) ∧ MkS lv most h i { v with poles := ps } row x σ ∧ σ.t.get 9 = some (.int .u64 u)
def M5 (lv : Value) (most : Int) (h : Heap) (i : Nat) (v : VenR) (row x : Int) (σ : St) : Prop := ∃ r, (r = v.radius ∨ 0 ≤ r ∧ r ≤ 24) ∧ MkS lv most h i { v with radius := r } row x σ
def MakeP (most : Int) (h : Heap) (r : Value) (h' : Heap) : Prop := Ext h h' ∧ ∃ (i : Nat) (v : VenR) (row x : Int) (a b c : Option Nat) (cs : List Value), (i : Int) < most ∧ Made i v row x ∧ a ≠ none ∧ VenO h h' v a b c cs ∧ r = .agg ⟨cs⟩
theorem make_ok (lv : Value) (l : List Int) (most : Int) (hm : 1 ≤ most ∧ most ≤ 100) (hl : l.length ≤ 4611686018427387904) (h : Heap) (hs : IntS h lv l) :
    ACalls PP 20 [lv, .int .i64 most] h (MakeP most h) := by
  refine acalls_of_vc mix fn20 bodyEq20 rfl (by show 2 ≤ 106; decide) ok20 ?_
  simp only [body20, Try.f20]
  have hr4 : List.range 4 = [0, 1, 2, 3] := rfl
  obtain ⟨ad, cap, rfl⟩ := hs.shape
  simp -implicitDefEqProofs [opBuildSlice, hr4]
  refine vc_loop (J20 (.slice ad l.length cap) most h) _ ⟨0, ⟨[⟨0, 0, 0, 0⟩], 10, 0, [], []⟩, 0, 0, rfl, by omega, ?_, some h.n, none, none, _, Ext.new _ _, ⟨_, _, _, rfl, ⟨rfl, ?_⟩, OwO.nil, OwO.nil, ?_⟩, by simp, by simp, by simp, by simp, by simp, by simp, by simp, by simp, by simp [zVen], by simp⟩ ?_
  · exact ⟨rfl, ⟨by decide, by decide⟩, rfl, by simp, by simp, ⟨_, rfl, rfl, rfl⟩, by simp, by simp, by simp, fun j s t _ h2 => by simp at h2, by simp, fun j a b h1 => by simp at h1, by simp⟩
  · simp [seatC]
  · refine ⟨?_, ?_, ?_⟩ <;> (intro n; simp)
  rintro m ⟨T, ⟨x, H⟩⟩ ⟨i, v, row, x', rfl, him, hM, a, b, c, cs, hE, hO, ha, g0, g1, g4, g5, g6, g7, g8, x4, x5⟩
  simp at hE hO g0 g1 g4 g5 g6 g7 g8 x4 x5
  obtain ⟨bs, rfl⟩ : ∃ bs, a = some bs := by cases a with | none => exact absurd rfl ha | some b => exact ⟨b, rfl⟩
  have hO' := hO
  obtain ⟨sv, kv, pv, rfl, ⟨rfl, o1⟩, ⟨rfl, o2⟩, ⟨rfl, o3⟩, ap⟩ := hO
  have hlen := hM.len
  by_cases q1 : i < l.length
  rotate_left
  · simp -implicitDefEqProofs [g0, g1, g4, g5, g6, g7, g8, x4, x5, q1]
    exact ⟨hE, i, v, row, x', _, _, _, _, him, hM, ha, hO', rfl⟩
  by_cases q2 : (v.seats.length : Int) < most
  rotate_left
  · simp -implicitDefEqProofs [g0, g1, g4, g5, g6, g7, g8, x4, x5, q1, q2]
    exact ⟨hE, i, v, row, x', _, _, _, _, him, hM, ha, hO', rfl⟩
  have hti : l[i]? = some l[i] := List.getElem?_eq_getElem (by omega)
  obtain ⟨_, b1, o1', wb1, cs1, r1, rfl, hb1, hd1, hl1, _⟩ := (hs.ext hE).at 1 intC_len hti
  obtain ⟨t, ht⟩ : ∃ t, t = l[i] := ⟨_, rfl⟩
  rw [← ht] at hd1 hti
  rw [Nat.mul_one] at hd1 hl1
  obtain ⟨u, hu⟩ : ∃ u, u = t % 18446744073709551616 := ⟨_, rfl⟩
  have e1 : IntKind.wrap .u64 t = u := by rw [u64wrap_mod, hu]
  have hu0 : 0 ≤ u ∧ u < 18446744073709551616 := by omega
  obtain ⟨ua, hua⟩ : ∃ z, z = u.tmod 7 := ⟨_, rfl⟩
  have e2 : IntKind.wrap .u64 ua = ua := u64wrap (by rw [hua, Int.tmod_eq_emod_of_nonneg hu0.1]; omega)
  have hrb := hM.rowB
  have hxb := hM.xB
  have e3 : IntKind.wrap .i64 (x' + 10) = x' + 10 := i64wrap (by omega)
  have e4 : IntKind.wrap .i64 (row + 1) = row + 1 := i64wrap (by omega)
  have e5 : IntKind.wrap .i64 (x' + 10 + 5) = x' + 10 + 5 := i64wrap (by omega)
  simp -implicitDefEqProofs [g0, g1, g4, g5, g6, g7, g8, x4, x5, q1, q2, hb1, hd1, hl1, intC, e1, e2, e3, ← hua]
  refine condQ_cutB (M1 (.slice (some ⟨b1, o1', none⟩) l.length cap) most h i v row x' u) ?_ ?_
  · refine condQ_of (fun hc => ?_) (fun hc => ?_)
    · simp -implicitDefEqProofs [e4]
      exact ⟨row + 1, 0, .inr ⟨rfl, rfl⟩, ⟨some bs, b, c, _, hE, hO', ha, by simp, by simp, by simp, by simp, by simp, by simp, by simp, by simp, by simp⟩, by simp⟩
    · simp -implicitDefEqProofs
      refine condQ_of (fun hc => ?_) (fun hc => ?_)
      · simp -implicitDefEqProofs [e5]
        exact ⟨row, x' + 10 + 5, .inl ⟨rfl, by omega, by omega⟩, ⟨some bs, b, c, _, hE, hO', ha, by simp, by simp, by simp, by simp, by simp, by simp, by simp, by simp, by simp⟩, by simp⟩
      · simp -implicitDefEqProofs
        exact ⟨row, x' + 10, .inl ⟨rfl, by omega, by omega⟩, ⟨some bs, b, c, _, hE, hO', ha, by simp, by simp, by simp, by simp, by simp, by simp, by simp, by simp, by simp⟩, by simp⟩
  clear g0 g1 g4 g5 g6 g7 g8 x4 x5 hE hO' o1 o2 o3 ap ha hs hb1
  rintro ⟨T1, ⟨X1, H1⟩⟩ ⟨row1, x1, hst, ⟨a, b, c, cs, hE, hO, ha, g0, g1, g4, g5, g6, g7, g8, x4, x5⟩, g9⟩
  simp at hE hO g0 g1 g4 g5 g6 g7 g8 x4 x5 g9
  obtain ⟨bs, rfl⟩ : ∃ bs, a = some bs := by cases a with | none => exact absurd rfl ha | some b => exact ⟨b, rfl⟩
  have hO' := hO
  obtain ⟨sv, kv, pv, rfl, ⟨rfl, o1⟩, ⟨rfl, o2⟩, ⟨rfl, o3⟩, ap⟩ := hO
  have hrow1 : 0 ≤ row1 ∧ row1 ≤ i + 1 := by rcases hst with h | h <;> omega
  have hx1 : 0 ≤ x1 ∧ x1 ≤ 15 * (i + 1) := by rcases hst with h | h <;> omega
  have f1 : IntKind.wrap .i64 (10 * row1) = 10 * row1 := i64wrap (by omega)
  obtain ⟨ub, hub⟩ : ∃ z, z = u.tdiv 7 := ⟨_, rfl⟩
  have hub0 : 0 ≤ ub ∧ ub < 18446744073709551616 := by rw [hub, Int.tdiv_eq_ediv_of_nonneg hu0.1]; omega
  have f2 : IntKind.wrap .u64 ub = ub := u64wrap (by omega)
  obtain ⟨uc, huc⟩ : ∃ z, z = ub.tmod 6 := ⟨_, rfl⟩
  have f3 : IntKind.wrap .u64 uc = uc := u64wrap (by rw [huc, Int.tmod_eq_emod_of_nonneg hub0.1]; omega)
  simp -implicitDefEqProofs [g0, g1, g4, g5, g6, g7, g8, g9, x4, x5, f1, ← hub, f2, ← huc, f3]
  refine condQ_cutB (M2 (.slice (some ⟨b1, o1', none⟩) l.length cap) most h i v row1 x1 u) ?_ ?_
  · by_cases k0 : uc = 0
    · simp -implicitDefEqProofs [k0]
      exact ⟨1, by decide, by decide, ⟨some bs, b, c, _, hE, hO', ha, by simp, by simp, by simp, by simp, by simp, by simp, by simp, by simp, by simp⟩, by simp, by simp, by simp [seatC]⟩
    · by_cases k1 : uc = 1
      · simp -implicitDefEqProofs [k1]
        exact ⟨2, by decide, by decide, ⟨some bs, b, c, _, hE, hO', ha, by simp, by simp, by simp, by simp, by simp, by simp, by simp, by simp, by simp⟩, by simp, by simp, by simp [seatC]⟩
      · by_cases k2 : uc = 2
        · simp -implicitDefEqProofs [k2]
          exact ⟨2, by decide, by decide, ⟨some bs, b, c, _, hE, hO', ha, by simp, by simp, by simp, by simp, by simp, by simp, by simp, by simp, by simp⟩, by simp, by simp, by simp [seatC]⟩
        · simp -implicitDefEqProofs [k0, k1, k2]
          exact ⟨0, by decide, by decide, ⟨some bs, b, c, _, hE, hO', ha, by simp, by simp, by simp, by simp, by simp, by simp, by simp, by simp, by simp⟩, by simp, by simp, by simp [seatC]⟩
  clear g0 g1 g4 g5 g6 g7 g8 g9 x4 x5 hE hO' o1 o2 o3 ap ha
  rintro ⟨T2, ⟨X2, H2⟩⟩ ⟨kd, hk0, hk2, ⟨a, b, c, cs, hE, hO, ha, g0, g1, g4, g5, g6, g7, g8, x4, x5⟩, g9, g10, x10⟩
  simp at hE hO g0 g1 g4 g5 g6 g7 g8 x4 x5 g9 g10 x10
  obtain ⟨bs, rfl⟩ : ∃ bs, a = some bs := by cases a with | none => exact absurd rfl ha | some b => exact ⟨b, rfl⟩
  have hO' := hO
  obtain ⟨sv, kv, pv, rfl, ⟨rfl, o1⟩, ⟨rfl, o2⟩, ⟨rfl, o3⟩, ap⟩ := hO
  obtain ⟨o11, o12, o13⟩ := o1
  have hbn : ¬ bs = H2.n := by omega
  obtain ⟨F, hF⟩ : ∃ F, F = v.seats.flatMap seatC := ⟨_, rfl⟩
  have hFl : F.length = v.seats.length * 4 := by rw [hF, flatA_len 4 seatC_len]
  rw [← hF] at o11
  have hmx : (v.seats.length + 1) * 32 ≤ 140737488355328 := by omega
  have e8 : F.take (v.seats.length * 4) = F := List.take_of_length_le (by omega)
  obtain ⟨uv, huv⟩ : ∃ z, z = u.tdiv 42 := ⟨_, rfl⟩
  have huv0 : 0 ≤ uv ∧ uv < 18446744073709551616 := by rw [huv, Int.tdiv_eq_ediv_of_nonneg hu0.1]; omega
  have p1 : IntKind.wrap .u64 uv = uv := u64wrap (by omega)
  obtain ⟨uw, huw⟩ : ∃ z, z = uv.tmod 9 := ⟨_, rfl⟩
  have p2 : IntKind.wrap .u64 uw = uw := u64wrap (by rw [huw, Int.tmod_eq_emod_of_nonneg huv0.1]; omega)
  simp -implicitDefEqProofs [g0, g1, g4, g5, g6, g7, g8, g9, g10, x4, x5, x10, seatC, opAppend, srcCells, opBuildSlice, maxA, hr4, hbn, o11, hFl, hmx, e8, ← huv, p1, ← huw, p2]
  obtain ⟨G, hG⟩ : ∃ G, G = ((H2.new (Blk.row true 34 [Value.int IntKind.i64 row1, Value.int IntKind.i64 x1, Value.int IntKind.i64 (10 * row1), Value.int IntKind.i64 kd])).set bs Blk.dead).new (Blk.row true 34 (F ++ [Value.int IntKind.i64 row1, Value.int IntKind.i64 x1, Value.int IntKind.i64 (10 * row1), Value.int IntKind.i64 kd])) := ⟨_, rfl⟩
  rw [← hG]
  obtain ⟨v1, hv1⟩ : ∃ v1 : VenR, v1 = { v with seats := v.seats ++ [⟨row1, x1, 10 * row1, kd⟩] } := ⟨_, rfl⟩
  have EG : Ext h G := by rw [hG]; exact ext_push hE o12 _ _ _
  have hOG : VenO h G v1 (some (H2.n + 1)) b c [.slice (some ⟨H2.n + 1, 0, none⟩) (v.seats.length + 1) (v.seats.length + 1), .int .i64 v.gap, .int .i64 v.radius, .slice (b.map fun b => ⟨b, 0, none⟩) v.kills.length v.kills.length, .slice (c.map fun b => ⟨b, 0, none⟩) v.poles.length v.poles.length] := by
    obtain ⟨p1, p2, p3⟩ := ap
    have k2 : OwO 3 intC h H2 b v.kills (.slice (b.map fun b => ⟨b, 0, none⟩) v.kills.length v.kills.length) := ⟨rfl, o2⟩
    have k3 : OwO 39 poleC h H2 c v.poles (.slice (c.map fun b => ⟨b, 0, none⟩) v.poles.length v.poles.length) := ⟨rfl, o3⟩
    have k1 : OwO 34 seatC h H2 (some bs) v.seats (.slice (some ⟨bs, 0, none⟩) v.seats.length v.seats.length) := ⟨rfl, by rw [← hF]; exact o11, o12, o13⟩
    subst hv1
    refine ⟨_, _, _, rfl, ?_, ?_, ?_, ?_, ?_, p3⟩
    · rw [hG]; exact k1.push _ _ (by simp [hF, seatC])
    · rw [hG]; exact k2.keep _ _ (p1 bs rfl)
    · rw [hG]; exact k3.keep _ _ (p2 bs rfl)
    · intro n hn; obtain rfl := Option.some.inj hn; exact k2.lt (by omega)
    · intro n hn; obtain rfl := Option.some.inj hn; exact k3.lt (by omega)
  have hl1v : v1.seats.length = i + 2 := by rw [hv1]; simp [hlen]
  have hk1v : v1.kills = v.kills := by rw [hv1]
  have hp1v : v1.poles = v.poles := by rw [hv1]
  have hg1v : v1.gap = v.gap := by rw [hv1]
  have hr1v : v1.radius = v.radius := by rw [hv1]
  have n1 : G.n = H2.n + 2 := by rw [hG]; rfl
  have hr1 : List.range 1 = [0] := rfl
  clear g0 g1 g4 g5 g6 g7 g8 g9 g10 x4 x5 x10 hE hO'
  refine condQ_cut (M3 (.slice (some ⟨b1, o1', none⟩) l.length cap) most h i v1 row1 x1 u) ?_ ?_
  · by_cases k0 : uw = 0
    · have r1 : IntKind.wrap .i64 (v.seats.length : Int) = ((i + 1 : Nat) : Int) := by rw [i64wrap (by omega)]; omega
      have hOG' := hOG
      obtain ⟨_, _, _, ee, t1, t2, t3, a1, a2, a3⟩ := hOG
      simp only [List.cons.injEq, and_true, true_and] at ee
      obtain ⟨rfl, _, _, rfl, rfl⟩ := ee
      cases b with
      | none =>
        simp -implicitDefEqProofs [o2, opAppend, srcCells, opBuildSlice, maxA, hr1, k0, r1]
        have hk0 : v1.kills = [] := by rw [hk1v, o2]
        refine ⟨[((i + 1 : Nat) : Int)], .inr (by rw [hk0]; rfl), ⟨some (H2.n + 1), some (G.n + 1), c, _, (EG.newOf _).newOf _, ⟨_, _, _, by rw [hg1v, hr1v], (t1.ext (Ext.new _ _)).ext (Ext.new _ _), OwO.push0 (by omega) _ _ (by simp [intC]), (t3.ext (Ext.new _ _)).ext (Ext.new _ _), fun n hn => ?_, a2, fun n hn => ?_⟩, by simp, by simp, by simp, by simp, by simp, by simp, by simp, by simp, by simp, by simp⟩, by simp⟩
        · obtain rfl := Option.some.inj hn; simp; omega
        · obtain rfl := Option.some.inj hn; exact t3.lt (by omega)
      | some bk =>
        obtain ⟨o21, o22, o23⟩ := t2.2
        have hbk : ¬ bk = G.n := by omega
        obtain ⟨FK, hFK⟩ : ∃ F, F = v1.kills.flatMap intC := ⟨_, rfl⟩
        have hFKl : FK.length = v.kills.length := by have := flatA_len 1 intC_len v1.kills; rw [← hFK, hk1v] at this; omega
        rw [← hFK] at o21
        have hkl := hM.klen
        have hmk : (v.kills.length + 1) * 8 ≤ 140737488355328 := by omega
        have e9 : FK.take v.kills.length = FK := List.take_of_length_le (by omega)
        simp -implicitDefEqProofs [opAppend, srcCells, opBuildSlice, maxA, hr1, k0, r1, hbk, o21, hFKl, hmk, e9]
        have k2 := t2.push (.row true 3 [.int .i64 ((i + 1 : Nat) : Int)]) ((i + 1 : Nat) : Int) (cells := FK ++ [.int .i64 ((i + 1 : Nat) : Int)]) (by simp [hFK, intC])
        refine ⟨v1.kills ++ [((i + 1 : Nat) : Int)], .inr rfl, ⟨some (H2.n + 1), some (G.n + 1), c, _, ext_push EG o22 _ _ _, ⟨_, _, _, by rw [hg1v, hr1v], t1.keep _ _ (fun q => a1 _ rfl q.symm), by rw [hk1v] at k2 ⊢; exact k2, t3.keep _ _ (a3 _ rfl), fun n hn => ?_, a2, fun n hn => ?_⟩, by simp, by simp, by simp, by simp, by simp, by simp, by simp, by simp, by simp, by simp⟩, by simp⟩
        · obtain rfl := Option.some.inj hn; simp; omega
        · obtain rfl := Option.some.inj hn; exact t3.lt (by omega)
    · simp -implicitDefEqProofs [k0]
      refine ⟨v1.kills, .inl rfl, ⟨some (H2.n + 1), b, c, _, EG, hOG, by simp, by simp, by simp, by simp, by simp, by simp, by simp, by simp, by simp, by simp⟩, by simp⟩
  clear hbn hF hFl o11 hmx e8 hG EG hOG n1 ha o2 o3 ap o12 o13
  rintro ⟨T3, ⟨X3, H3⟩⟩ ⟨ks, hks, ⟨a, b, c, cs, hE, hO, ha, g0, g1, g4, g5, g6, g7, g8, x4, x5⟩, g9⟩
  simp at hE hO g0 g1 g4 g5 g6 g7 g8 x4 x5 g9
  obtain ⟨v2, hv2⟩ : ∃ v2 : VenR, v2 = { v1 with kills := ks } := ⟨_, rfl⟩
  rw [← hv2] at hO
  have hO' := hO
  obtain ⟨sv, kv, pv, rfl, t1, t2, t3, a1, a2, a3⟩ := hO
  obtain ⟨ux, hux⟩ : ∃ z, z = uv.tmod 11 := ⟨_, rfl⟩
  have p3 : IntKind.wrap .u64 ux = ux := u64wrap (by rw [hux, Int.tmod_eq_emod_of_nonneg huv0.1]; omega)
  obtain ⟨uy, huy⟩ : ∃ z, z = u.tdiv 500 := ⟨_, rfl⟩
  have huy0 : 0 ≤ uy ∧ uy < 18446744073709551616 := by rw [huy, Int.tdiv_eq_ediv_of_nonneg hu0.1]; omega
  have p4 : IntKind.wrap .u64 uy = uy := u64wrap (by omega)
  obtain ⟨uz, huz⟩ : ∃ z, z = uy.tmod 12 := ⟨_, rfl⟩
  have huz0 : 0 ≤ uz ∧ uz < 12 := by rw [huz, Int.tmod_eq_emod_of_nonneg huy0.1]; omega
  have p5 : IntKind.wrap .u64 uz = uz := u64wrap (by omega)
  have p6 : IntKind.wrap .i64 uz = uz := i64wrap (by omega)
  have p7 : IntKind.wrap .i64 (1 + uz) = 1 + uz := i64wrap (by omega)
  simp -implicitDefEqProofs [g0, g1, g4, g5, g6, g7, g8, g9, x4, x5, ← huv, p1, ← hux, p3]
  have hr3 : List.range 3 = [0, 1, 2] := rfl
  have hp2v : v2.poles = v.poles := by rw [hv2]; exact hp1v
  refine condQ_cut (M4 (.slice (some ⟨b1, o1', none⟩) l.length cap) most h i v2 row1 x1 u) ?_ ?_
  · by_cases k0 : ux = 1
    · cases c with
      | none =>
        obtain ⟨rfl, t3'⟩ := t3
        have hp0 : v2.poles = [] := t3'
        simp -implicitDefEqProofs [hp0, g0, g1, g4, g5, g6, g7, g8, g9, x4, x5, opAppend, srcCells, opBuildSlice, maxA, hr3, k0, f1, ← huy, p4, ← huz, p5, p6, p7]
        refine ⟨[⟨x1, 10 * row1, 1 + uz⟩], .inr ⟨1 + uz, by omega, by omega, by rw [hp0]; rfl⟩, ⟨a, b, some (H3.n + 1), _, (hE.newOf _).newOf _, ⟨_, _, _, rfl, (t1.ext (Ext.new _ _)).ext (Ext.new _ _), (t2.ext (Ext.new _ _)).ext (Ext.new _ _), OwO.push0 hE.n _ _ (by simp [poleC]), a1, fun n hn => ?_, fun n hn => ?_⟩, ha, by simp, by simp, by simp, by simp, by simp, by simp, by simp, by simp, by simp⟩, by simp⟩
        · subst hn; intro q; obtain rfl := Option.some.inj q; exact t1.lt (Nat.le_succ _) rfl
        · subst hn; intro q; obtain rfl := Option.some.inj q; exact t2.lt (Nat.le_succ _) rfl
      | some bk =>
        have t3'' := t3
        obtain ⟨rfl, o21, o22, o23⟩ := t3
        have hbk : ¬ bk = H3.n := by omega
        obtain ⟨FK, hFK⟩ : ∃ F, F = v2.poles.flatMap poleC := ⟨_, rfl⟩
        have hFKl : FK.length = v2.poles.length * 3 := by rw [hFK]; exact flatA_len 3 poleC_len v2.poles
        rw [← hFK] at o21
        have hpl := hM.plen
        have hmk : (v2.poles.length + 1) * 24 ≤ 140737488355328 := by rw [hp2v]; omega
        have e9 : FK.take (v2.poles.length * 3) = FK := List.take_of_length_le (by omega)
        simp -implicitDefEqProofs [g0, g1, g4, g5, g6, g7, g8, g9, x4, x5, opAppend, srcCells, opBuildSlice, maxA, hr3, k0, hbk, o21, hFKl, hmk, e9, f1, ← huy, p4, ← huz, p5, p6, p7]
        have k2 := t3''.push (.row true 39 [.int .i64 x1, .int .i64 (10 * row1), .int .i64 (1 + uz)]) ⟨x1, 10 * row1, 1 + uz⟩ (cells := FK ++ [.int .i64 x1, .int .i64 (10 * row1), .int .i64 (1 + uz)]) (by simp [hFK, poleC])
        refine ⟨v2.poles ++ [⟨x1, 10 * row1, 1 + uz⟩], .inr ⟨1 + uz, by omega, by omega, rfl⟩, ⟨a, b, some (H3.n + 1), _, ext_push hE o22 _ _ _, ⟨_, _, _, rfl, t1.keep _ _ (fun q => a2 _ q rfl), t2.keep _ _ (fun q => a3 _ q rfl), k2, a1, fun n hn => ?_, fun n hn => ?_⟩, ha, by simp, by simp, by simp, by simp, by simp, by simp, by simp, by simp, by simp⟩, by simp⟩
        · subst hn; intro q; obtain rfl := Option.some.inj q; exact t1.lt (Nat.le_succ _) rfl
        · subst hn; intro q; obtain rfl := Option.some.inj q; exact t2.lt (Nat.le_succ _) rfl
    · simp -implicitDefEqProofs [k0]
      exact ⟨v2.poles, .inl rfl, ⟨a, b, c, _, hE, hO', ha, by simp, by simp, by simp, by simp, by simp, by simp, by simp, by simp, by simp⟩, by simp⟩
  clear g0 g1 g4 g5 g6 g7 g8 g9 x4 x5 hE hO' t1 t2 t3 a1 a2 a3 ha
  rintro ⟨T4, ⟨X4, H4⟩⟩ ⟨ps, hps, ⟨a, b, c, cs, hE, hO, ha, g0, g1, g4, g5, g6, g7, g8, x4, x5⟩, g9⟩
  simp at hE hO g0 g1 g4 g5 g6 g7 g8 x4 x5 g9
  obtain ⟨v3, hv3⟩ : ∃ v3 : VenR, v3 = { v2 with poles := ps } := ⟨_, rfl⟩
  rw [← hv3] at hO
  have hO' := hO
  obtain ⟨sv, kv, pv, rfl, t1, t2, t3, ap⟩ := hO
  obtain ⟨ur, hur⟩ : ∃ z, z = uv.tmod 5 := ⟨_, rfl⟩
  have p8 : IntKind.wrap .u64 ur = ur := u64wrap (by rw [hur, Int.tmod_eq_emod_of_nonneg huv0.1]; omega)
  obtain ⟨us, hus⟩ : ∃ z, z = u.tdiv 300 := ⟨_, rfl⟩
  have hus0 : 0 ≤ us ∧ us < 18446744073709551616 := by rw [hus, Int.tdiv_eq_ediv_of_nonneg hu0.1]; omega
  have p9 : IntKind.wrap .u64 us = us := u64wrap (by omega)
  obtain ⟨ut, hut⟩ : ∃ z, z = us.tmod 25 := ⟨_, rfl⟩
  have hut0 : 0 ≤ ut ∧ ut < 25 := by rw [hut, Int.tmod_eq_emod_of_nonneg hus0.1]; omega
  have p10 : IntKind.wrap .u64 ut = ut := u64wrap (by omega)
  have p11 : IntKind.wrap .i64 ut = ut := i64wrap (by omega)
  simp -implicitDefEqProofs [g0, g1, g4, g5, g6, g7, g8, g9, x4, x5, ← huv, p1, ← hur, p8]
  refine condQ_cutB (M5 (.slice (some ⟨b1, o1', none⟩) l.length cap) most h i v3 row1 x1) ?_ ?_
  · by_cases k0 : ur = 3
    · simp -implicitDefEqProofs [g0, g1, g4, g5, g6, g7, g8, g9, x4, x5, k0, ← hus, p9, ← hut, p10, p11]
      exact ⟨ut, .inr ⟨by omega, by omega⟩, ⟨a, b, c, _, hE, ⟨_, _, _, rfl, t1, t2, t3, ap⟩, ha, by simp, by simp, by simp, by simp, by simp, by simp, by simp, by simp, by simp⟩⟩
    · simp -implicitDefEqProofs [k0]
      exact ⟨v3.radius, .inl rfl, ⟨a, b, c, _, hE, hO', ha, by simp, by simp, by simp, by simp, by simp, by simp, by simp, by simp, by simp⟩⟩
  clear g0 g1 g4 g5 g6 g7 g8 g9 x4 x5 hE hO' t1 t2 t3 ap ha
  rintro ⟨T5, ⟨X5, H5⟩⟩ ⟨r, hr, ⟨a, b, c, cs, hE, hO, ha, g0, g1, g4, g5, g6, g7, g8, x4, x5⟩⟩
  simp at hE hO g0 g1 g4 g5 g6 g7 g8 x4 x5
  have w1 : IntKind.wrap .i64 ((i : Int) + 1) = ((i + 1 : Nat) : Int) := by rw [i64wrap (by omega)]; omega
  have hMade : Made (i + 1) { v3 with radius := r } row1 x1 := by
    rw [hv3, hv2, hv1]
    refine made_step hM hst hk0 hk2 ?_ ?_ ?_
    · rw [← hk1v]; exact hks
    · rw [← hp2v]; exact hps
    · rw [hv3] at hr; rw [← hr1v]; rw [hv2] at hr; exact hr
  simp -implicitDefEqProofs [g0, g1, g4, g5, g6, g7, g8, x4, x5, w1]
  refine ⟨(most - ((i + 1 : Nat) : Int)).toNat, by omega, i + 1, _, _, _, rfl, by omega, hMade, a, b, c, _, hE, hO, ha, by simp, by simp, by simp, by simp, by simp, by simp, by simp, by simp, by simp⟩
end Go.Proofs.Yth
