import Derived.Test.YtmmbndbpjanfhaaDoorAmFB
import Derived.Test.YtmmbndbpjanfhaaDoorAmR
set_option linter.unusedVariables false
set_option linter.unusedSimpArgs false
set_option linter.unusedSectionVars false
namespace Go.Proofs.Flt
open Go Go.Am
set_option maxRecDepth 20000
set_option maxHeartbeats 4000000
theorem IntsA.ext {h h' : Heap} {v : Value} {l : List Int} (H : IntsA h v l) (e : Ext h h') : IntsA h' v l := by
  obtain ⟨ad, c, q, z⟩ := H
  refine ⟨ad, c, q, ?_⟩
  rcases z with z | ⟨b, w, cs, z1, z2, z3⟩
  · exact .inl z
  · exact .inr ⟨b, w, cs, z1, by rw [e.f b z3, z2], Nat.lt_of_lt_of_le z3 e.n⟩
def wrapF (L : List FR) (x : Int) : List FR := if x ≤ 0 then L else ⟨x, 0, 0⟩ :: L
def wrapL (f : FR) (zs : List Int) : List FR := zs.foldl wrapF [f]
theorem wrapL_snoc (f : FR) (zs : List Int) (x : Int) : wrapL f (zs ++ [x]) = wrapF (wrapL f zs) x := by simp [wrapL]
theorem wrapL_ind (f : FR) (P : List FR → Prop) (h0 : P [f]) (h1 : ∀ L x, P L → 0 < x → P (⟨x, 0, 0⟩ :: L)) (zs : List Int) : P (wrapL f zs) := by
  have key : ∀ L, P L → P (zs.foldl wrapF L) := by
    induction zs with
    | nil => intro L h; exact h
    | cons x r ih =>
      intro L h
      refine ih _ ?_
      unfold wrapF
      split
      · exact h
      · exact h1 L x h (by omega)
  exact key _ h0
theorem wrapL_ne (f : FR) (zs : List Int) : wrapL f zs ≠ [] := wrapL_ind f (fun L => L ≠ []) (by simp) (by simp) zs
theorem wrapL_spot (f : FR) (zs : List Int) : spotL (wrapL f zs) = (f.line, f.col) :=
  wrapL_ind f (fun L => spotL L = (f.line, f.col)) (spotL_one f) (fun L x h _ => by simp only [spotL]; rw [if_neg (by simp [hasS])]; exact h) zs
theorem wrapL_in (f : FR) (zs : List Int) : f.code ∈ (wrapL f zs).map (·.code) :=
  wrapL_ind f (fun L => f.code ∈ L.map (·.code)) (by simp) (fun L x h _ => by simp only [List.map_cons, List.mem_cons]; exact .inr h) zs
theorem wrapL_len (f : FR) (zs : List Int) : (wrapL f zs).length ≤ zs.length + 1 := by
  have key : ∀ L : List FR, (zs.foldl wrapF L).length ≤ zs.length + L.length := by
    induction zs with
    | nil => intro L; simp
    | cons x r ih =>
      intro L
      refine Nat.le_trans (ih _) ?_
      unfold wrapF
      split <;> simp <;> omega
  exact key [f]
theorem wrapL_mem (f : FR) (zs : List Int) {x : Int} (hx : x ∈ zs) (h0 : 0 < x) : x ∈ (wrapL f zs).map (·.code) := by
  have grow : ∀ (zs : List Int) (L : List FR), x ∈ L.map (·.code) → x ∈ (zs.foldl wrapF L).map (·.code) := by
    intro zs
    induction zs with
    | nil => intro L h; exact h
    | cons y r ih =>
      intro L h
      refine ih _ ?_
      unfold wrapF
      split
      · exact h
      · simp only [List.map_cons, List.mem_cons]; exact .inr h
  have key : ∀ (zs : List Int) (L : List FR), x ∈ zs → x ∈ (zs.foldl wrapF L).map (·.code) := by
    intro zs
    induction zs with
    | nil => intro L h; cases h
    | cons y r ih =>
      intro L h
      rcases List.mem_cons.1 h with rfl | h
      · refine grow r _ ?_
        unfold wrapF
        rw [if_neg (by omega)]
        simp
      · exact ih _ h
  exact key zs [f] hx
theorem wrapL_InF (f : FR) (hf : InF f) (zs : List Int) (hz : ∀ z ∈ zs, InR z) : ∀ g ∈ wrapL f zs, InF g := by
  have key : ∀ (zs : List Int) (L : List FR), (∀ z ∈ zs, InR z) → (∀ g ∈ L, InF g) → ∀ g ∈ zs.foldl wrapF L, InF g := by
    intro zs
    induction zs with
    | nil => intro L _ h; exact h
    | cons y r ih =>
      intro L hz h
      refine ih _ (fun z q => hz z (List.mem_cons_of_mem _ q)) ?_
      unfold wrapF
      split
      · exact h
      · intro g hg
        rcases List.mem_cons.1 hg with rfl | hg
        · exact ⟨hz y (by simp), show InR 0 from ⟨by decide, by decide⟩, show InR 0 from ⟨by decide, by decide⟩⟩
        · exact h g hg
  exact key zs [f] hz (by intro g hg; rw [List.mem_singleton] at hg; subst hg; exact hf)
theorem textL_wrap (x : Int) (L : List FR) (hL : L ≠ []) : textL (⟨x, 0, 0⟩ :: L) = [99, 111, 100, 101, 32] ++ Lib.itoa x ++ [58, 32] ++ textL L := by
  cases L with
  | nil => exact absurd rfl hL
  | cons g r =>
    simp only [textL, List.map_cons]
    rw [Lib.join_cons, joinTail_cons, Lib.join_cons]
    simp [txtF, hasS]
theorem textL_le {L : List FR} (hL : ∀ f ∈ L, InF f) : (textL L).length ≤ L.length * 82 := by
  have := join_len (L.map txtF) (fun x hx => by obtain ⟨f, q1, rfl⟩ := List.mem_map.1 hx; exact txtF_len (hL f q1))
  rw [List.length_map] at this
  exact this
def J4 (h : Heap) (sv : Value) (f : FR) (ln cl : Int) (zs : List Int) (m : Nat) (σ : St) : Prop := ∃ (i : Nat) (b : Nat), m = zs.length - i ∧ i ≤ zs.length ∧ Ext h σ.m.h ∧ ChA σ.m.h σ.m.h.n (.iface 41 (.pointer (some ⟨b, 0, none⟩))) (wrapL f (zs.take i)) ∧
  σ.t.get 1 = some (.int .i64 ln) ∧ σ.t.get 2 = some (.int .i64 cl) ∧ σ.t.get 3 = some sv ∧ σ.t.get 9 = some (.int .i64 f.code) ∧ σ.t.get 10 = some (.iface 41 (.pointer (some ⟨b, 0, none⟩))) ∧ σ.t.get 11 = some (.int .i64 (codeL (wrapL f (zs.take i)))) ∧
  σ.t.get 12 = some (.int .i64 ((wrapL f (zs.take i)).length : Nat)) ∧ σ.t.get 13 = some (.string (B (textL (wrapL f (zs.take i))))) ∧ σ.t.get 14 = some (.int .i64 (i : Nat))
def K4 (h : Heap) (sv : Value) (f : FR) (ln cl : Int) (b : Nat) (zs : List Int) (m : Nat) (σ : St) : Prop := ∃ (i : Nat), m = zs.length - i ∧ i ≤ zs.length ∧ Ext h σ.m.h ∧ ChA σ.m.h σ.m.h.n (.iface 41 (.pointer (some ⟨b, 0, none⟩))) (wrapL f zs) ∧
  σ.t.get 1 = some (.int .i64 ln) ∧ σ.t.get 2 = some (.int .i64 cl) ∧ σ.t.get 3 = some sv ∧ σ.t.get 9 = some (.int .i64 f.code) ∧ σ.t.get 10 = some (.iface 41 (.pointer (some ⟨b, 0, none⟩))) ∧ σ.t.get 11 = some (.int .i64 (codeL (wrapL f zs))) ∧
  σ.t.get 12 = some (.int .i64 ((wrapL f zs).length : Nat)) ∧ σ.t.get 13 = some (.string (B (textL (wrapL f zs)))) ∧ σ.t.get 16 = some (.int .i64 (i : Nat))
theorem cell_of {h : Heap} {sv : Value} {zs : List Int} (H : IntsA h sv zs) : ∃ ad c, sv = .slice ad zs.length c ∧ ∀ i (hi : i < zs.length), ∃ b w cs, ad = some (⟨b, 0, none⟩ : Addr) ∧ h.f b = .row w 3 cs ∧ b < h.n ∧ i + 1 ≤ cs.length ∧ ∃ rest, cs.drop i = .int .i64 zs[i] :: rest := by
  obtain ⟨ad, c, rfl, hz⟩ := H
  refine ⟨ad, c, rfl, fun i hi => ?_⟩
  obtain ⟨b, w, cs, rfl, hb, hbn⟩ : ∃ b w cs, ad = some (⟨b, 0, none⟩ : Addr) ∧ h.f b = .row w 3 (zs.map (Value.int .i64) ++ cs) ∧ b < h.n := by
    rcases hz with rfl | z
    · simp at hi
    · exact z
  refine ⟨b, w, _, rfl, hb, hbn, by simp; omega, (zs.drop (i + 1)).map (Value.int .i64) ++ cs, ?_⟩
  rw [List.drop_append_of_le_length (by simp; omega), ← List.map_drop, List.drop_eq_getElem_cons hi]; rfl
theorem wrapsLaw_ok (a ln cl : Int) (wl : InR ln) (wc : InR cl) (sv : Value) (zs : List Int) (wz : ∀ z ∈ zs, InR z) (hzl : zs.length ≤ 1152921504606846976) (h : Heap) (G : GlobOK h) (hs : IntsA h sv zs) : ACalls PP 4 [.int .i64 a, .int .i64 ln, .int .i64 cl, sv] h (fun v h' => Ext h h' ∧ v = .bool true) := by
  refine acalls_of_vc mix fn4 bodyEq4 rfl (by show 4 ≤ 145; decide) ok4 ?_
  simp only [body4, Tryd.f4]
  obtain ⟨k, hk, hk1⟩ := modN a 1000 (by decide)
  have wk : IntKind.wrap .i64 (k : Int) = (k : Int) := i64wrap (by omega)
  have uk : IntKind.wrap .u64 (k : Int) = (k : Int) := u64wrap (by omega)
  obtain ⟨C, hC⟩ : ∃ C : Int, C = 1 + k := ⟨_, rfl⟩
  have pk : IntKind.wrap .i64 (1 + (k : Int)) = C := by rw [hC]; exact i64wrap (by omega)
  have b1 : (1 : Int) ≤ C ∧ C ≤ 1000 := by omega
  have nC : ¬ C ≤ 0 := by omega
  simp at hk
  obtain ⟨ad, cp, rfl, hcell⟩ := cell_of hs
  obtain ⟨n, hn⟩ : ∃ n, n = zs.length := ⟨_, rfl⟩
  rw [← hn] at hzl hs
  rw [← hn]
  simp -implicitDefEqProofs [u64wrap_mod, hk, wk, uk, pk]
  refine (new_ok C ln cl h).mono ?_
  rintro ve H1 ⟨E1, C1⟩
  have G1 := G.ext E1
  rw [if_neg nC] at C1
  obtain ⟨be, rfl⟩ := one_shape C1
  simp -implicitDefEqProofs [callQ]
  intro _
  refine condQ_of (fun hc => ?_) (fun hc => ?_) <;> simp only [decide_eq_true_eq, decide_eq_false_iff_not] at hc
  · simp -implicitDefEqProofs
    refine (told_ok H1 G1).mono ?_
    rintro r H2 ⟨E2, rfl⟩
    simp -implicitDefEqProofs [callQ]
    intro _
    exact E1.trans E2
  · obtain ⟨f, hf⟩ : ∃ f : FR, f = ⟨C, mx0 ln, mx0 cl⟩ := ⟨_, rfl⟩
    have hfc : f.code = C := by rw [hf]
    have hfI : InF f := by rw [hf]; exact ⟨show InR C from ⟨by omega, by omega⟩, mx0_in wl, mx0_in wc⟩
    rw [← hf] at C1
    have ht0 : ∀ g ∈ [f], InF g := by intro g hg; rw [List.mem_singleton] at hg; subst hg; exact hfI
    simp -implicitDefEqProofs
    refine (text_ok _ _ (by simp) ht0 H1 G1 C1).mono ?_
    rintro r H2 ⟨E2, rfl⟩
    have G2 := G1.ext E2; have C2 := C1.ext E2
    simp -implicitDefEqProofs [callQ]
    intro _
    refine vc_loop (J4 h (.slice ad n cp) f ln cl zs) n ⟨0, be, by omega, by omega, E1.trans E2, C2, by simp, by simp, by simp, by simp [hfc], by simp, by simp [wrapL, codeL, hfc], by simp [wrapL], by simp [wrapL], by simp⟩ ?_
    rintro m ⟨T, ⟨x, H3⟩⟩ ⟨i, b, rfl, hi, E3, C3, g1, g2, g3, g9, g10, g11, g12, g13, g14⟩
    simp at E3 C3 g1 g2 g3 g9 g10 g11 g12 g13 g14
    have G3 := G.ext E3
    obtain ⟨L, hL⟩ : ∃ L, L = wrapL f (zs.take i) := ⟨_, rfl⟩
    have hLne : L ≠ [] := by rw [hL]; exact wrapL_ne _ _
    have hLI : ∀ g ∈ L, InF g := by rw [hL]; exact wrapL_InF f hfI _ (fun z q => wz z (List.mem_of_mem_take q))
    have hLl : L.length ≤ 13 := by rw [hL]; have := wrapL_len f (zs.take i); rw [List.length_take] at this; omega
    rw [← hL] at C3 g11 g12 g13
    obtain ⟨nl, hnl⟩ : ∃ nl, nl = L.length := ⟨_, rfl⟩
    obtain ⟨cL, hcL⟩ : ∃ nl, nl = codeL L := ⟨_, rfl⟩
    obtain ⟨tL, htL⟩ : ∃ nl, nl = textL L := ⟨_, rfl⟩
    have htl := textL_le hLI
    rw [← hnl] at g12 hLl htl
    rw [← hcL] at g11
    rw [← htL] at g13 htl
    simp -implicitDefEqProofs [g1, g2, g3, g9, g10, g11, g12, g13, g14]
    refine condQ_of (fun hc1 => ?_) (fun hc1 => ?_) <;> simp only [decide_eq_true_eq, decide_eq_false_iff_not] at hc1
    · have hin : i < zs.length := by omega
      have hin' : i < n := by omega
      obtain ⟨bz, wz', cs, rfl, hb, hbn, hcl, rest, hd⟩ := hcell i hin
      have hb2 : H3.f bz = .row wz' 3 cs := by rw [E3.f bz hbn, hb]
      have hx : zs[i]? = some zs[i] := List.getElem?_eq_getElem hin
      have htk : zs.take (i + 1) = zs.take i ++ [zs[i]] := by rw [List.take_add_one, hx]; rfl
      have hwx := wz zs[i] (List.getElem_mem hin)
      obtain ⟨X, hX⟩ : ∃ X, X = zs[i] := ⟨_, rfl⟩
      rw [← hX] at hd htk hwx
      have hnx : wrapL f (zs.take (i + 1)) = wrapF L X := by rw [htk, wrapL_snoc, hL]
      have e4 : IntKind.wrap .i64 ((i : Int) + 1) = ((i + 1 : Nat) : Int) := by rw [i64wrap (by omega)]; omega
      simp -implicitDefEqProofs [g1, g2, g3, g9, g10, g11, g12, g13, g14, hin', hb2, hcl, hd]
      refine (wrap_ok _ L X H3 C3).mono ?_
      rintro r H4 ⟨E4, C4⟩
      have G4 := G3.ext E4
      have hb4 : H4.f bz = .row wz' 3 cs := by rw [E4.f bz (Nat.lt_of_lt_of_le hbn E3.n), hb2]
      have hwL : (if X ≤ 0 then L else ⟨X, 0, 0⟩ :: L) = wrapF L X := rfl
      rw [hwL] at C4
      have hwne : wrapF L X ≠ [] := by unfold wrapF; split; exact hLne; simp
      obtain ⟨b4, rfl⟩ := ch_shape C4 hwne
      by_cases hX0 : X ≤ 0
      · have hsame : wrapF L X = L := if_pos hX0
        rw [hsame] at C4 hnx
        simp -implicitDefEqProofs [callQ, g1, g2, g3, g9, g10, g11, g12, g13, g14, hb4, hcl, hd, hX0, hin']
        intro _
        refine (depth_ok _ _ (by omega) H4 G4 C4).mono ?_
        rintro r H5 ⟨E5, rfl⟩
        have G5 := G4.ext E5; have C5 := C4.ext E5
        rw [← hnl]
        simp -implicitDefEqProofs [callQ, g1, g2, g3, g9, g10, g11, g12, g13, g14]
        intro _
        refine (code_ok _ _ H5 G5 C5).mono ?_
        rintro r H6 ⟨E6, rfl⟩
        rw [← hcL]
        simp -implicitDefEqProofs [callQ, g1, g2, g3, g9, g10, g11, g12, g13, g14, e4]
        intro _
        exact ⟨zs.length - (i + 1), by omega, i + 1, b, rfl, by omega, ((E3.trans E4).trans E5).trans E6, by rw [hnx]; exact ((C3.ext E4).ext E5).ext E6, by simp, by simp, by simp, by simp, by simp, by simp [hnx, hcL], by simp [hnx, hnl], by simp [hnx, htL], by simp⟩
      · have hmore : wrapF L X = ⟨X, 0, 0⟩ :: L := if_neg hX0
        rw [hmore] at C4 hnx
        simp -implicitDefEqProofs [callQ, g1, g2, g3, g9, g10, g11, g12, g13, g14, hb4, hcl, hd, hX0, hin']
        intro _
        have dX := decimal_ok X hwx H4
        obtain ⟨tX, htX⟩ : ∃ t, t = Lib.itoa X := ⟨_, rfl⟩
        have lX := itoa_len hwx
        rw [← htX] at dX lX
        have m1 : 5 + tX.length ≤ 9223372036854775807 := by omega
        have wn : IntKind.wrap .i64 ((nl : Int) + 1) = ((nl + 1 : Nat) : Int) := by rw [i64wrap (by omega)]; omega
        have hnt := textL_wrap X L hLne
        rw [← htX, ← htL] at hnt
        refine dX.mono ?_
        rintro r H5 ⟨e, rfl⟩
        replace e := e.symm
        subst e
        have m2 : tX.length ≤ 9223372036854775800 := by omega
        have m3 : tX.length + 2 + 1 + 1 + 1 + 1 + 1 + tL.length ≤ 9223372036854775807 := by omega
        simp -implicitDefEqProofs [callQ, g1, g2, g3, g9, g10, g11, g12, g13, g14, e4, m1, m2, m3, wn]
        intro _
        exact ⟨zs.length - (i + 1), by omega, i + 1, b4, rfl, by omega, E3.trans E4, by rw [hnx]; exact C4, by simp, by simp, by simp, by simp, by simp, by simp [hnx, codeL], by simp [hnx, hnl], by simp [hnx, hnt], by simp⟩
    · have hie : i = zs.length := by omega
      rw [hie, List.take_length] at hL
      simp -implicitDefEqProofs [g1, g2, g3, g9, g10, g11, g12, g13, g14]
      refine vc_loop (K4 h (.slice ad n cp) f ln cl b zs) n ⟨0, by omega, by omega, E3, by rw [← hL]; exact C3, by simp, by simp, by simp, by simp, by simp, by simp [← hL, hcL], by simp [← hL, hnl], by simp [← hL, htL], by simp⟩ ?_
      clear g1 g2 g3 g9 g10 g11 g12 g13 g14 C3 E3 G3
      rintro m ⟨T, ⟨x, H3⟩⟩ ⟨i, rfl, hi, E3, C3, g1, g2, g3, g9, g10, g11, g12, g13, g16⟩
      simp at E3 C3 g1 g2 g3 g9 g10 g11 g12 g13 g16
      rw [← hL] at C3 g11 g12 g13
      rw [← hnl] at g12
      rw [← hcL] at g11
      rw [← htL] at g13
      have G3 := G.ext E3
      simp -implicitDefEqProofs [g1, g2, g3, g9, g10, g11, g12, g13, g16]
      refine condQ_of (fun hc1 => ?_) (fun hc1 => ?_) <;> simp only [decide_eq_true_eq, decide_eq_false_iff_not] at hc1
      · have hin : i < zs.length := by omega
        have hin' : i < n := by omega
        obtain ⟨bz, wz', cs, rfl, hb, hbn, hcl, rest, hd⟩ := hcell i hin
        have hb2 : H3.f bz = .row wz' 3 cs := by rw [E3.f bz hbn, hb]
        have hmz : zs[i] ∈ zs := List.getElem_mem hin
        obtain ⟨X, hX⟩ : ∃ X, X = zs[i] := ⟨_, rfl⟩
        rw [← hX] at hd hmz
        have e4 : IntKind.wrap .i64 ((i : Int) + 1) = ((i + 1 : Nat) : Int) := by rw [i64wrap (by omega)]; omega
        have hr : (decide ((0 : Int) < X) && decide (X ∈ L.map (·.code))) = decide (0 < X) := by
          by_cases hp : 0 < X
          · rw [decide_eq_true hp, Bool.true_and, decide_eq_true_eq, hL]; exact wrapL_mem f zs hmz hp
          · rw [decide_eq_false hp, Bool.false_and]
        simp -implicitDefEqProofs [g1, g2, g3, g9, g10, g11, g12, g13, g16, hin', hb2, hcl, hd]
        refine (isF_ok _ L X H3 G3 C3).mono ?_
        rintro r H4 ⟨E4, rfl⟩
        have hb4 : H4.f bz = .row wz' 3 cs := by rw [E4.f bz (Nat.lt_of_lt_of_le hbn E3.n), hb2]
        rw [hr]
        simp -implicitDefEqProofs [callP, g1, g2, g3, g9, g10, g11, g12, g13, g16, hin', hb4, hcl, hd, e4]
        intro _
        exact ⟨zs.length - (i + 1), by omega, i + 1, rfl, by omega, E3.trans E4, by rw [← hL]; exact C3.ext E4, by simp, by simp, by simp, by simp, by simp, by simp [← hL, hcL], by simp [← hL, hnl], by simp [← hL, htL], by simp⟩
      · have hs0 := wrapL_spot f zs
        have hin0 : (decide ((0 : Int) < f.code) && decide (f.code ∈ L.map (·.code))) = true := by rw [hL, decide_eq_true (wrapL_in f zs)]; simp; omega
        have hq0 : (decide ((0 : Int) < 0) && decide ((0 : Int) ∈ L.map (·.code))) = false := by simp
        have hq1 : (decide ((0 : Int) < -f.code) && decide (-f.code ∈ L.map (·.code))) = false := by rw [decide_eq_false (by omega)]; simp
        have wneg : IntKind.wrap .i64 (-f.code) = -f.code := i64wrap (by omega)
        have hls : f.line = mx0 ln := by rw [hf]
        have hcs : f.col = mx0 cl := by rw [hf]
        rw [← hL, hls, hcs] at hs0
        have bl := fun H => bounded_ok ln H
        have bc := fun H => bounded_ok cl H
        obtain ⟨ml, hml⟩ : ∃ m, m = mx0 ln := ⟨_, rfl⟩
        obtain ⟨mc, hmc⟩ : ∃ m, m = mx0 cl := ⟨_, rfl⟩
        rw [← hml] at bl hs0
        rw [← hmc] at bc hs0
        simp -implicitDefEqProofs [g1, g2, g3, g9, g10, g11, g12, g13, g16]
        refine (told_ok H3 G3).mono ?_
        rintro r H4 ⟨E4, rfl⟩
        have G4 := G3.ext E4; have C4 := C3.ext E4
        simp -implicitDefEqProofs [callQ, g1, g2, g3, g9, g10, g11, g12, g13, g16]
        intro _
        refine (code_ok _ _ H4 G4 C4).mono ?_
        rintro r H5 ⟨E5, rfl⟩
        have G5 := G4.ext E5; have C5 := C4.ext E5
        rw [← hcL]
        simp -implicitDefEqProofs [callQ, g1, g2, g3, g9, g10, g11, g12, g13, g16]
        intro _
        refine (isF_ok _ L f.code H5 G5 C5).mono ?_
        rintro r H6 ⟨E6, rfl⟩
        have G6 := G5.ext E6; have C6 := C5.ext E6
        rw [hin0]
        simp -implicitDefEqProofs [callQ, g1, g2, g3, g9, g10, g11, g12, g13, g16]
        intro _
        refine (isF_ok _ L 0 H6 G6 C6).mono ?_
        rintro r H7 ⟨E7, rfl⟩
        have G7 := G6.ext E7; have C7 := C6.ext E7
        rw [hq0]
        simp -implicitDefEqProofs [callQ, g1, g2, g3, g9, g10, g11, g12, g13, g16, wneg]
        intro _
        refine (isF_ok _ L (-f.code) H7 G7 C7).mono ?_
        rintro r H8 ⟨E8, rfl⟩
        have G8 := G7.ext E8; have C8 := C7.ext E8
        rw [hq1]
        simp -implicitDefEqProofs [callQ, g1, g2, g3, g9, g10, g11, g12, g13, g16]
        intro _
        refine (depth_ok _ L (by omega) H8 G8 C8).mono ?_
        rintro r H9 ⟨E9, rfl⟩
        have G9 := G8.ext E9; have C9 := C8.ext E9
        rw [← hnl]
        simp -implicitDefEqProofs [callQ, g1, g2, g3, g9, g10, g11, g12, g13, g16]
        intro _
        refine (text_ok _ L (by omega) hLI H9 G9 C9).mono ?_
        rintro r H10 ⟨E10, rfl⟩
        have G10 := G9.ext E10; have C10 := C9.ext E10
        rw [← htL]
        simp -implicitDefEqProofs [callQ, g1, g2, g3, g9, g10, g11, g12, g13, g16]
        intro _
        refine (spot_ok _ L (by omega) H10 G10 C10).mono ?_
        rintro r H11 ⟨E11, rfl⟩
        rw [hs0]
        simp -implicitDefEqProofs [callQ, g1, g2, g3, g9, g10, g11, g12, g13, g16]
        intro _
        refine (bl H11).mono ?_
        rintro r H12 ⟨e, rfl⟩
        replace e := e.symm
        subst e
        simp -implicitDefEqProofs [callQ, g1, g2, g3, g9, g10, g11, g12, g13, g16]
        intro _
        refine (bc H11).mono ?_
        rintro r H12 ⟨e, rfl⟩
        replace e := e.symm
        subst e
        simp -implicitDefEqProofs [callQ, g1, g2, g3, g9, g10, g11, g12, g13, g16]
        intro _
        exact (((((((E3.trans E4).trans E5).trans E6).trans E7).trans E8).trans E9).trans E10).trans E11
end Go.Proofs.Flt
