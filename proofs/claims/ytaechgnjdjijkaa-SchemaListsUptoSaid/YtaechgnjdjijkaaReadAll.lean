/- schema.ReadAll. -/
import Derived.Test.YtaechgnjdjijkaaSpoilK
import Derived.Deep.DeepCutAuto
namespace Go.Proofs.Ytaechgnjdjijkaa
open Go.RowKit Go.Lib

theorem Oks.bel {W w w' : World} {v : Value} {n : Nat} {l : List Km} (h : Oks w W.heap.size v n l) (hb : Below W.heap.size W w) (hg : w.grownBy w' v.ownBlock) : Below W.heap.size W w' := hb.grown hg hb.size (fun _ e => (own_lt h.own e).1)
theorem Oks.bk {w w' : World} {B g : Nat} {v : Value} {n : Nat} {l : List Km} {t : TypeId} {cs : Array Value} (h : Oks w B v n l) (hk : Bk w g t cs) (hne : 29 ≠ t) (hg : w.grownBy w' v.ownBlock) : Bk w' g t cs := hk.grown hg (own_bk_ne h.own hk hne)
/-- What ReadAll answers. -/
def AllAns (W : World) (r : Option (List Kn)) (e : Ending) (w' : World) : Prop :=
  Below W.heap.size W w' ∧ match r with
    | none => e = .returned (.tuple #[.slice none 0 0, .int .i64 290])
    | some l => ∃ (A : Option Addr) (cap : Nat) (m : List Km), e = .returned (.tuple #[.slice A m.length cap, .int .i64 0]) ∧ m.map Km.k = l ∧ Oks w' W.heap.size (.slice A m.length cap) m.length m ∧ Apt m
theorem Apt.snoc {l : List Km} {x : Km} (h : Apt l) (hx : ∀ y ∈ l, ∀ r, y.win.ownBlock = some r → x.win.ownBlock ≠ some r) : Apt (l ++ [x]) := by
  intro i j y z hij hi hj r hr
  have hjl := (List.getElem?_eq_some_iff.1 hj).1
  rw [List.length_append, List.length_singleton] at hjl
  rw [List.getElem?_append_left (by omega)] at hi
  by_cases h2 : j < l.length
  · rw [List.getElem?_append_left h2] at hj
    exact h i j y z hij hi hj r hr
  · rw [List.getElem?_append_right (by omega), show j - l.length = 0 by omega] at hj
    simp only [List.getElem?_cons_zero, Option.some.injEq] at hj
    subst hj
    exact hx y (List.mem_of_getElem? hi) r hr
theorem Apt.nil : Apt [] := fun i j x y _ h => by simp at h
def slLen : Value → Nat
  | .slice _ n _ => n
  | _ => 0
set_option maxRecDepth 100000 in
theorem ReadAll_job (c : Cf) (hf : c.Fit) (hj : job c = false) (v : Value) (W : World) : Calls Try.prog 30 #[c.val, v] W fun e w' => e = .returned (.tuple #[.slice none 0 0, .int .i64 4]) ∧ Below W.heap.size W w' := by
  have hc := Check_any c hf
  rw [hj] at hc
  have HC := Lib.hid hc
  clear hc hj hf
  unfold Cf.val at *
  go_enter Try.func30, Try.ntmps30
  go_wp2_with (first
    | (go_at_call 34; (with_reducible refine (HC.out _).mono ?_); rintro e w1 ⟨rfl, hb⟩; have HB := Lib.hid hb; clear hb))
  go_ret2
  exact ⟨rfl, below_trans (below_alloc W _) HB.out⟩
set_option maxRecDepth 100000 in
set_option maxHeartbeats 1000000 in
theorem ReadAll_any (c : Cf) (hf : c.Fit) (hj : job c = true) (A : Option Addr) (m cap : Nat) (bs : List UInt8) (W : World) (hr : Rd W (.slice A m cap) m (bc bs)) (hm : bs.length = m) (hmax : m ≤ 8796093022208) :
    Calls Try.prog 30 #[c.val, .slice A m cap] W (AllAns W (rdAll c m bs [])) := by
  have hc := Check_any c hf
  rw [hj] at hc
  have HC := Lib.hid hc
  have HRD : Hid (∀ (A : Option Addr) (m cap : Nat) (bs : List UInt8) (w : World), Rd w (.slice A m cap) m (bc bs) → bs.length = m → m ≤ 8796093022208 → Calls Try.prog 10 #[c.val, .slice A m cap] w (ReadAns w (rdKey c bs 0))) := Lib.hid fun A m cap bs w hr h1 h2 => Read_any c hf hj A m cap bs w hr h1 h2
  obtain ⟨R, hR⟩ : ∃ R, rdAll c m bs [] = R := ⟨_, rfl⟩
  rw [hR]
  have HR := Lib.hid hR
  have HRB := Lib.hid hr
  have HBL := Lib.hid hm
  have hcap : m ≤ cap ∧ cap ≤ maxLen := by obtain ⟨_, _, hv, h1, h2, _⟩ := hr; cases hv; exact ⟨h1, h2⟩
  unfold maxLen at hcap
  obtain ⟨hcap1, hcap2⟩ := hcap
  clear hR hr hm hc hj hf
  obtain ⟨cv, hcv⟩ : ∃ cv : Array Value, #[.int .i64 c.g, .int .i64 c.so, .int .i64 c.k, .int .i64 c.sz, .int .i64 c.sl, .int .i64 c.o, .int .i64 c.ga, .int .i64 c.la, .int .i64 c.ea, .bool c.di] = cv := ⟨_, rfl⟩
  have HCV := Lib.hid hcv
  clear hcv
  unfold Cf.val at *
  go_enter Try.func30, Try.ntmps30
  go_wp2_with fail
  refine (HC.out _).mono ?_
  rintro e w1 ⟨rfl, hb1⟩
  have HB1 : Hid (Below W.heap.size W w1) := Lib.hid (below_trans (below_alloc W _) hb1)
  have HK1 : Hid (Bk w1 W.heap.size 24 #[.int .i64 c.g, .int .i64 c.so, .int .i64 c.k, .int .i64 c.sz, .int .i64 c.sl, .int .i64 c.o, .int .i64 c.ga, .int .i64 c.la, .int .i64 c.ea, .bool c.di]) := Lib.hid ((Bk.new W _ _).below hb1)
  have hs1 : W.heap.size < w1.heap.size := HK1.out.lt
  clear hb1
  go_wp2_with fail
  obtain ⟨iK, hiK, hK0, hK1, hK2⟩ := info_parts keyInfo
  have hbel0 : Below W.heap.size W (w1.alloc (.cells #[] 29)) := HB1.out.alloc (by omega) _
  have hok0 : Oks (w1.alloc (.cells #[] 29)) W.heap.size (.slice (some ⟨w1.heap.size, 0, none⟩) 0 0) 0 [] := ⟨World.ownsRow_lit (base := W.heap.size) (e := 29) (size := 3) w1 #[] 0 (by omega) (by unfold maxLen; omega) rfl, rfl, by simp⟩
  go_loopw [1, 7] (fun bv ov wr => ∃ (A' : Option Addr) (m' cap' f : Nat) (bs' : List UInt8) (Ao : Option Addr) (co : Nat) (l : List Km), bv = .slice A' m' cap' ∧ ov = .slice Ao l.length co ∧ Rd W (.slice A' m' cap') m' (bc bs') ∧ bs'.length = m' ∧ m' ≤ f ∧ R = rdAll c f bs' (l.map Km.k) ∧
      Oks wr W.heap.size (.slice Ao l.length co) l.length l ∧ Bk wr W.heap.size 24 #[.int .i64 c.g, .int .i64 c.so, .int .i64 c.k, .int .i64 c.sz, .int .i64 c.sl, .int .i64 c.o, .int .i64 c.ga, .int .i64 c.la, .int .i64 c.ea, .bool c.di] ∧ Below W.heap.size W wr ∧ 3 * l.length + m' ≤ m ∧ Apt l) (fun bv _ _ => slLen bv)
  case atStart => exact ⟨A, m, cap, m, bs, _, 0, [], rfl, rfl, HRB.out, HBL.out, Nat.le_refl _, HR.out.symm, hok0, (HK1.out.alloc _), hbel0, by simp, Apt.nil⟩
  case round =>
    clear hbel0 hok0
    obtain ⟨A', m', cap', f, bs', Ao, co, l, rfl, rfl, hrd, hbl, hmf, hRf, hok, hbk, hbel, hlm, hapt⟩ := hrel
    have HAPT := Lib.hid hapt
    clear hapt
    have HRD' := Lib.hid (hrd.below hbel)
    have HRW := Lib.hid hrd
    have HBL' := Lib.hid hbl
    have HOK := Lib.hid hok
    have HBK := Lib.hid hbk
    have HBEL := Lib.hid hbel
    have hcap' : m' ≤ cap' ∧ cap' ≤ maxLen := by obtain ⟨_, _, hv, h1, h2, _⟩ := hrd; cases hv; exact ⟨h1, h2⟩
    have hco : l.length ≤ co ∧ co ≤ maxLen := by obtain ⟨_, _, hv, h1, h2⟩ := ownsRow_shape hok.own; cases hv; exact ⟨h1, h2⟩
    unfold maxLen at hcap' hco
    obtain ⟨hcap1', hcap2'⟩ := hcap'
    obtain ⟨hco1, hco2⟩ := hco
    have hszr : W.heap.size < wr.heap.size := hbk.lt
    by_cases h0 : m' = 0
    · subst h0
      have hb0 : bs' = [] := List.eq_nil_of_length_eq_zero hbl
      subst hb0
      rw [rdAll_nil] at hRf
      have HRF := Lib.hid hRf
      clear hRf hrd hbl hok hbk hbel
      go_wp2
      go_ret2
      obtain rfl := HRF.out
      exact ⟨HBEL.out, Ao, co, l, rfl, rfl, HOK.out, HAPT.out⟩
    · obtain ⟨f, rfl⟩ : ∃ f', f = f' + 1 := ⟨f - 1, by omega⟩
      rw [rdAll, if_neg (by omega)] at hRf
      have HRF := Lib.hid hRf
      have hpos : 0 < m' := by omega
      have c0 : wr.cell? ⟨W.heap.size, 0, none⟩ = some (.int .i64 c.g) := hbk.cell 0
      have c1 : wr.cell? ⟨W.heap.size, 1, none⟩ = some (.int .i64 c.so) := hbk.cell 1
      have c2 : wr.cell? ⟨W.heap.size, 2, none⟩ = some (.int .i64 c.k) := hbk.cell 2
      have c3 : wr.cell? ⟨W.heap.size, 3, none⟩ = some (.int .i64 c.sz) := hbk.cell 3
      have c4 : wr.cell? ⟨W.heap.size, 4, none⟩ = some (.int .i64 c.sl) := hbk.cell 4
      have c5 : wr.cell? ⟨W.heap.size, 5, none⟩ = some (.int .i64 c.o) := hbk.cell 5
      have c6 : wr.cell? ⟨W.heap.size, 6, none⟩ = some (.int .i64 c.ga) := hbk.cell 6
      have c7 : wr.cell? ⟨W.heap.size, 7, none⟩ = some (.int .i64 c.la) := hbk.cell 7
      have c8 : wr.cell? ⟨W.heap.size, 8, none⟩ = some (.int .i64 c.ea) := hbk.cell 8
      have c9 : wr.cell? ⟨W.heap.size, 9, none⟩ = some (.bool c.di) := hbk.cell 9
      clear hRf hrd hbl hok hbk hbel h0
      go_wp2_with fail
      refine (HRD.out A' m' cap' bs' _ HRD'.out HBL'.out (by omega)).mono ?_
      rintro e w2 ⟨hb2, hans⟩
      clear c0 c1 c2 c3 c4 c5 c6 c7 c8 c9
      have HB2 : Hid (Below W.heap.size W w2) := Lib.hid (below_trans HBEL.out hb2)
      cases hk : rdKey c bs' 0 with
      | none =>
        rw [hk] at hans
        simp only at hans
        subst hans
        have hno : Hid (R = none) := Lib.hid (by have := HRF.out; rw [hk] at this; exact this)
        clear hk hb2
        go_wp2
        go_quiet (fail)
        go_wp2
        go_ret2
        obtain rfl := hno.out
        exact ⟨bel_drewN (HB2.out.alloc HB2.out.size _) _, rfl⟩
      | some ka =>
        obtain ⟨k, a⟩ := ka
        rw [hk] at hans
        simp only at hans
        obtain ⟨A2, cap2, rfl, ho2⟩ := hans
        have HO2 := Lib.hid ho2
        obtain ⟨hp1, hp2⟩ := rdKey_pos hk
        have hle := (rdKey_le hk).1
        rw [HBL'.out] at hle
        have hRk : R = if notUp (l.map Km.k) k then none else rdAll c f (bs'.drop a) (l.map Km.k ++ [k]) := by have := HRF.out; rw [hk] at this; exact this
        have HRK := Lib.hid hRk
        have HAPX : Hid (Apt (l ++ [⟨k, A2, cap2⟩])) := Lib.hid (HAPT.out.snoc fun y hy r hr hr2 => by
          have h1 := (own_lt (HOK.out.each y hy) hr).2
          have h2 := (own_lt ho2 hr2).1
          omega)
        have HKM : Hid (Km.Own w2 W.heap.size ⟨k, A2, cap2⟩) := Lib.hid (own_mono ho2 (by omega))
        have hbx := Bk.new w2 29 #[.string k.key, .int .i64 k.dr, .slice A2 k.ws.length cap2]
        have HB2R := Lib.hid hb2
        obtain ⟨A4, cap4, hrun4, hrd4⟩ := run_rd_back HRW.out HBL'.out a hle
        have HR4 := Lib.hid hrd4
        clear hk hb2 ho2 hRk hrd4
        obtain ⟨S, D, ws⟩ := k
        have HST : Hid (∀ nq, let w := ((w2.alloc (.cells #[.string S, .int .i64 D, .slice A2 ws.length cap2] 29)).drewN nq).alloc (.cells #[.string S, .int .i64 D, .slice A2 ws.length cap2] 29)
            Oks w W.heap.size (.slice Ao l.length co) l.length l ∧ Km.Own w W.heap.size ⟨⟨S, D, ws⟩, A2, cap2⟩ ∧ Rd w (.slice (some ⟨w2.heap.size + 1, 0, none⟩) 1 1) 1 [.string S, .int .i64 D, .slice A2 ws.length cap2] ∧ Below W.heap.size W w) := Lib.hid fun nq => by
          have hb : Below w2.heap.size w2 (((w2.alloc (.cells #[.string S, .int .i64 D, .slice A2 ws.length cap2] 29)).drewN nq).alloc (.cells #[.string S, .int .i64 D, .slice A2 ws.length cap2] 29)) := (bel_drewN (below_alloc w2 _) nq).alloc (by simp) _
          refine ⟨(HOK.out.below HB2R.out).below hb, HKM.out.below hb, ?_, below_trans HB2.out hb⟩
          exact Rd.of_owns (own_lit (base := 0) (size := 3) _ _ 1 _ (by simp) (Nat.zero_le _) (by unfold maxLen; omega) rfl)
        simp only at hp1 hbx ⊢
        cases l with
        | nil =>
          simp only [List.length_nil] at hco1 hlm HST ⊢
          go_wp2
          go_quiet (fail)
          go_wp2_with (at_builtin; refine wpList_append_rd _ rfl (.tmp 46) (.tmp 48) 43 rfl W.heap.size 29 iK _ 3 48 Try.underlying43 hiK hK0 hK1 hK2 rfl (by decide) _ 0 _ rfl (HST.out _).1.own (some ⟨w2.heap.size + 1, 0, none⟩) 1 1 [.string S, .int .i64 D, .slice A2 ws.length cap2] rfl rfl (HST.out _).2.2.1 (km_one ⟨⟨S, D, ws⟩, A2, cap2⟩) (by simp only [maxLen]; omega) (by omega) (HST.out _).2.2.2.size ?_; intro v3 w3 ho3 hg3 hat3; have HO3 : Hid (Oks w3 W.heap.size v3 (0 + 1) ([] ++ [⟨⟨S, D, ws⟩, A2, cap2⟩])) := Lib.hid ((HST.out _).1.snoc (HST.out _).2.1 ho3 hg3); have HB3 : Hid (Below W.heap.size W w3) := Lib.hid ((HST.out _).1.bel (HST.out _).2.2.2 hg3); have HK3 : Hid (Bk w3 W.heap.size 24 #[.int .i64 c.g, .int .i64 c.so, .int .i64 c.k, .int .i64 c.sz, .int .i64 c.sl, .int .i64 c.o, .int .i64 c.ga, .int .i64 c.la, .int .i64 c.ea, .bool c.di]) := Lib.hid ((HST.out _).1.bk ((((HBK.out.below HB2R.out).alloc _).drewN _).alloc _) (by decide) hg3); obtain ⟨A3, cap3, hv3, hc31, hc32⟩ := ownsRow_shape ho3; subst hv3; clear ho3 hg3 hat3)
          go_roundw
          case rel => exact ⟨A4, m' - a, cap4, f, bs'.drop a, A3, cap3, [] ++ [⟨⟨S, D, ws⟩, A2, cap2⟩], rfl, by simp, HR4.out, by simp [HBL'.out], by omega, by rw [HRK.out, if_neg (by simp [notUp])]; simp, by simpa using HO3.out, HK3.out, HB3.out, by simp; omega, HAPX.out⟩
          case measure => simp [slLen]; omega
        | cons y0 l0 =>
          obtain ⟨y, hy⟩ : ∃ y, (y0 :: l0)[l0.length]? = some y := ⟨_, List.getElem?_eq_getElem (by simp)⟩
          obtain ⟨g, hg, -, hgl, -⟩ := ownsRow_at HOK.out.own (by simp)
          subst hg
          obtain ⟨g', off, hA, -, hz, -, -⟩ := rks_at HOK.out.rks hy
          cases hA
          obtain ⟨p, hp⟩ : ∃ p, l0.length = p := ⟨_, rfl⟩
          have hnu : notUp (((y0 :: l0).map Km.k)) ⟨S, D, ws⟩ = !Op.bytesLess y.k.key.toList S.toList := by
            unfold notUp
            rw [List.getLast?_eq_getElem?, List.length_map, List.length_cons, Nat.add_sub_cancel, List.getElem?_map, hy]
            rfl
          obtain ⟨YK, hYK⟩ : ∃ YK, y.k.key = YK := ⟨_, rfl⟩
          rw [hYK] at hnu hz
          have z0 : (w2.alloc (.cells #[.string S, .int .i64 D, .slice A2 ws.length cap2] 29)).cell? ⟨g, l0.length * 3, none⟩ = some (.string YK) := by
            have := (below_trans HB2R.out (below_alloc w2 (.cells #[.string S, .int .i64 D, .slice A2 ws.length cap2] 29))).cell (p := ⟨g, l0.length * 3, none⟩) hgl
            rw [this]; simpa using hz
          simp only [List.length_cons] at hco1 hlm HST ⊢
          have HNU := Lib.hid hnu
          have HP := Lib.hid hp
          rw [hp] at hlm hco1 HST z0 ⊢
          clear hy hgl hz hYK hnu hp
          have hw1 : IntKind.i64.wrap (p : Int) = (p : Int) := IntWalk.i64_in _ (by omega)
          have hw2 : IntKind.i64.wrap ((p : Int) + 1 - 1) = (p : Int) := by rw [Int.add_sub_cancel]; exact hw1
          have hw3 : IntKind.i64.wrap ((p : Int) + 1) = (p : Int) + 1 := IntWalk.i64_in _ (by omega)
          have hi0 : (0 : Int) ≤ (p : Int) := by omega
          have hin : (p : Int) < (p : Int) + 1 := by omega
          have hin' : p < p + 1 := by omega
          have hd0 : decide ((0 : Int) < (p : Int) + 1) = true := by rw [decide_eq_true_eq]; omega
          cases hbl : Op.bytesLess YK.toList S.toList with
          | false =>
            have HBL2 := Lib.hid hbl
            go_wp2
            go_quiet (fail)
            go_wp2
            go_ret2
            have hno : R = none := by rw [HRK.out, HNU.out, HBL2.out]; rfl
            subst hno
            exact ⟨bel_drewN (HB2.out.alloc HB2.out.size _) _, rfl⟩
          | true =>
            have HBL2 := Lib.hid hbl
            go_wp2
            go_quiet (fail)
            go_wp2_with (at_builtin; refine wpList_append_rd _ rfl (.tmp 46) (.tmp 48) 43 rfl W.heap.size 29 iK _ 3 48 Try.underlying43 hiK hK0 hK1 hK2 rfl (by decide) _ (p + 1) _ rfl (HST.out _).1.own (some ⟨w2.heap.size + 1, 0, none⟩) 1 1 [.string S, .int .i64 D, .slice A2 ws.length cap2] rfl rfl (HST.out _).2.2.1 (km_one ⟨⟨S, D, ws⟩, A2, cap2⟩) (by simp only [maxLen]; omega) (by omega) (HST.out _).2.2.2.size ?_; intro v3 w3 ho3 hg3 hat3; have HO3 : Hid (Oks w3 W.heap.size v3 (p + 1 + 1) ((y0 :: l0) ++ [⟨⟨S, D, ws⟩, A2, cap2⟩])) := Lib.hid ((HST.out _).1.snoc (HST.out _).2.1 ho3 hg3); have HB3 : Hid (Below W.heap.size W w3) := Lib.hid ((HST.out _).1.bel (HST.out _).2.2.2 hg3); have HK3 : Hid (Bk w3 W.heap.size 24 #[.int .i64 c.g, .int .i64 c.so, .int .i64 c.k, .int .i64 c.sz, .int .i64 c.sl, .int .i64 c.o, .int .i64 c.ga, .int .i64 c.la, .int .i64 c.ea, .bool c.di]) := Lib.hid ((HST.out _).1.bk ((((HBK.out.below HB2R.out).alloc _).drewN _).alloc _) (by decide) hg3); obtain ⟨A3, cap3, hv3, hc31, hc32⟩ := ownsRow_shape ho3; subst hv3; clear ho3 hg3 hat3)
            go_roundw
            case rel => exact ⟨A4, m' - a, cap4, f, bs'.drop a, A3, cap3, (y0 :: l0) ++ [⟨⟨S, D, ws⟩, A2, cap2⟩], rfl, by simp [HP.out], HR4.out, by simp [HBL'.out], by omega, by rw [HRK.out, HNU.out, HBL2.out, if_neg (by simp)]; simp, by simpa [HP.out] using HO3.out, HK3.out, HB3.out, by simp [HP.out]; omega, HAPX.out⟩
            case measure => simp [slLen]; omega
end Go.Proofs.Ytaechgnjdjijkaa
