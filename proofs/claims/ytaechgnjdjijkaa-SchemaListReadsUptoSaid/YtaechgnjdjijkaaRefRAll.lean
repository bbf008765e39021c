/- The document's ReadAll. -/
import Derived.Test.YtaechgnjdjijkaaReads
import Derived.Test.YtaechgnjdjijkaaListPl
namespace Go.Proofs.Ytaechgnjdjijkaa
open Go.RowKit Go.Lib

/-- What the document's ReadAll answers. -/
def RAllAns (W : World) (r : Option (List Kn)) (e : Ending) (w' : World) : Prop :=
  Below W.heap.size W w' ∧ match r with
    | none => e = .returned (.tuple #[.slice none 0 0, .int .i64 290])
    | some l => ∃ (A : Option Addr) (cap : Nat) (m : List Km), e = .returned (.tuple #[.slice A m.length cap, .int .i64 0]) ∧ m.map Km.k = l ∧ Oks w' W.heap.size (.slice A m.length cap) m.length m
set_option maxRecDepth 100000 in
theorem refReadAll_job (c : Cf) (hf : c.Fit) (hj : job c = false) (v : Value) (W : World) : Calls Try.prog 32 #[c.val, v] W fun e w' => e = .returned (.tuple #[.slice none 0 0, .int .i64 4]) ∧ Below W.heap.size W w' := by
  have hc := Job_any c hf
  rw [hj] at hc
  have HC := Lib.hid hc
  clear hc hj hf
  unfold Cf.val at *
  go_enter Try.func32, Try.ntmps32
  go_wp2_with (first
    | (go_at_call 41; (with_reducible refine (HC.out _).mono ?_); rintro e w1 ⟨rfl, hb⟩; have HB := Lib.hid hb; clear hb))
  go_ret2
  exact ⟨rfl, below_trans (below_alloc W _) HB.out⟩
set_option maxRecDepth 100000 in
set_option maxHeartbeats 2000000 in
theorem refReadAll_any (c : Cf) (hf : c.Fit) (hj : job c = true) (A : Option Addr) (m cap : Nat) (bs : List UInt8) (W : World) (hr : Rd W (.slice A m cap) m (bc bs)) (hm : bs.length = m) (hmax : m ≤ 8796093022208) :
    Calls Try.prog 32 #[c.val, .slice A m cap] W (RAllAns W (rdAll c m bs [])) := by
  have hc := Job_any c hf
  rw [hj] at hc
  have HC := Lib.hid hc
  have HRD : Hid (∀ (A : Option Addr) (m cap : Nat) (bs : List UInt8) (w : World), Rd w (.slice A m cap) m (bc bs) → bs.length = m → m ≤ 8796093022208 → Calls Try.prog 12 #[c.val, .slice A m cap] w (RA w (rdE c bs) (rdK c bs) (rdL c bs))) := Lib.hid fun A m cap bs w hr h1 h2 => refRead_full c hf A m cap bs w hr h1 h2
  have HRE : Hid (∀ bs, (rdE c bs = 0 ∧ rdKey c bs 0 = some (rdK c bs, rdL c bs)) ∨ (rdE c bs = 290 ∧ rdKey c bs 0 = none)) := Lib.hid fun bs => by
    unfold rdE rdK rdL
    rw [hj]
    cases rdKey c bs 0 with
    | none => exact .inr ⟨rfl, rfl⟩
    | some q => exact .inl ⟨rfl, rfl⟩
  obtain ⟨R, hR⟩ : ∃ R, rdAll c m bs [] = R := ⟨_, rfl⟩
  rw [hR]
  have HR := Lib.hid hR
  have HRB := Lib.hid hr
  have HBL := Lib.hid hm
  have hcap : m ≤ cap ∧ cap ≤ maxLen := by obtain ⟨_, _, hv, h1, h2, _⟩ := hr; cases hv; exact ⟨h1, h2⟩
  unfold maxLen at hcap
  obtain ⟨hcap1, hcap2⟩ := hcap
  clear hR hr hm hc hj hf
  unfold Cf.val at *
  go_enter Try.func32, Try.ntmps32
  go_wp2_with fail
  refine (HC.out _).mono ?_
  rintro e w1 ⟨rfl, hb1⟩
  have HB1 : Hid (Below W.heap.size W w1) := Lib.hid (below_trans (below_alloc W _) hb1)
  have HK1 : Hid (Bk w1 W.heap.size 24 #[.int .i64 c.g, .int .i64 c.so, .int .i64 c.k, .int .i64 c.sz, .int .i64 c.sl, .int .i64 c.o, .int .i64 c.ga, .int .i64 c.la, .int .i64 c.ea, .bool c.di]) := Lib.hid ((Bk.new W _ _).below hb1)
  have hs1 : W.heap.size < w1.heap.size := HK1.out.lt
  clear hb1
  go_wp2_with fail
  obtain ⟨iK, hiK, hK0, hK1, hK2⟩ := info_parts keyInfo
  go_loopw [6, 7] (fun ov av wr => ∃ (at_ f : Nat) (Ao : Option Addr) (co : Nat) (l : List Km), av = .int .i64 (at_ : Int) ∧ ov = .slice Ao l.length co ∧ at_ ≤ m ∧ m - at_ ≤ f ∧ R = rdAll c f (bs.drop at_) (l.map Km.k) ∧
      Oks wr W.heap.size (.slice Ao l.length co) l.length l ∧ Bk wr W.heap.size 24 #[.int .i64 c.g, .int .i64 c.so, .int .i64 c.k, .int .i64 c.sz, .int .i64 c.sl, .int .i64 c.o, .int .i64 c.ga, .int .i64 c.la, .int .i64 c.ea, .bool c.di] ∧ Below W.heap.size W wr ∧ 3 * l.length ≤ at_) (fun _ av _ => m - (intOf av).toNat)
  case atStart => exact ⟨0, m, none, 0, [], rfl, rfl, Nat.zero_le _, by omega, by rw [List.drop_zero]; exact HR.out.symm, ⟨World.ownsRow_nil _ _ _ _, rfl, by simp⟩, HK1.out, HB1.out, by simp⟩
  case round =>
    obtain ⟨at_, f, Ao, co, l, rfl, rfl, hat, hmf, hRf, hok, hbk, hbel, hlm⟩ := hrel
    have HOK := Lib.hid hok
    have HBK := Lib.hid hbk
    have HBEL := Lib.hid hbel
    have hco : l.length ≤ co ∧ co ≤ maxLen := by obtain ⟨_, _, hv, h1, h2⟩ := ownsRow_shape hok.own; cases hv; exact ⟨h1, h2⟩
    unfold maxLen at hco
    obtain ⟨hco1, hco2⟩ := hco
    have hszr : W.heap.size < wr.heap.size := hbk.lt
    have hdl : (bs.drop at_).length = m - at_ := by rw [List.length_drop, HBL.out]
    by_cases h0 : at_ = m
    · subst h0
      have hb0 : bs.drop at_ = [] := List.eq_nil_of_length_eq_zero (by omega)
      rw [hb0, rdAll_nil] at hRf
      have HRF := Lib.hid hRf
      clear hRf hok hbk hbel hdl hb0
      have hd : decide ((at_ : Int) < (at_ : Int)) = false := by simp
      go_wp2
      go_ret2
      obtain rfl := HRF.out
      exact ⟨HBEL.out, Ao, co, l, rfl, rfl, HOK.out⟩
    · obtain ⟨f, rfl⟩ : ∃ f', f = f' + 1 := ⟨f - 1, by omega⟩
      rw [rdAll, if_neg (by omega)] at hRf
      have HRF := Lib.hid hRf
      have HRE2 := Lib.hid (HRE.out (bs.drop at_))
      obtain ⟨A4, c4, hrun4, hrd4⟩ := run_rd_back (HRB.out.below hbel) HBL.out at_ hat
      have HR4 := Lib.hid hrd4
      have HRQ : Hid (∀ w, Below wr.heap.size wr w → Calls Try.prog 12 #[.agg #[.int .i64 c.g, .int .i64 c.so, .int .i64 c.k, .int .i64 c.sz, .int .i64 c.sl, .int .i64 c.o, .int .i64 c.ga, .int .i64 c.la, .int .i64 c.ea, .bool c.di], .slice A4 (m - at_) c4] w (RA w (rdE c (bs.drop at_)) (rdK c (bs.drop at_)) (rdL c (bs.drop at_)))) := Lib.hid fun w hb => HRD.out A4 (m - at_) c4 (bs.drop at_) w (hrd4.below hb) hdl (by omega)
      have HDL := Lib.hid hdl
      obtain ⟨cu, hcu⟩ : ∃ cu, bs.drop at_ = cu := ⟨_, rfl⟩
      rw [hcu] at HRF HRE2 HR4 HRQ HDL
      obtain ⟨z, hz⟩ : ∃ z, rdE c cu = z := ⟨_, rfl⟩
      obtain ⟨a, ha⟩ : ∃ a, rdL c cu = a := ⟨_, rfl⟩
      obtain ⟨K, hK⟩ : ∃ K, rdK c cu = K := ⟨_, rfl⟩
      rw [hz, ha, hK] at HRE2 HRQ
      obtain ⟨S, hS⟩ : ∃ S, K.key = S := ⟨_, rfl⟩
      obtain ⟨D, hD⟩ : ∃ D, K.dr = D := ⟨_, rfl⟩
      obtain ⟨nx, hnx⟩ : ∃ nx, K.ws.length = nx := ⟨_, rfl⟩
      unfold RA at HRQ
      rw [hS, hD, hnx] at HRQ
      have HCU := Lib.hid hcu
      have HS := Lib.hid hS
      have HDD := Lib.hid hD
      have HNX := Lib.hid hnx
      have hat0 : (0 : Int) ≤ (at_ : Int) := by omega
      have hat1 : (at_ : Int) < (m : Int) := by omega
      have hat2 : (at_ : Int) ≤ (m : Int) := by omega
      have HST : Hid (∀ w, Below wr.heap.size wr w → w.cell? ⟨W.heap.size, 0, none⟩ = some (.int .i64 c.g) ∧ w.cell? ⟨W.heap.size, 1, none⟩ = some (.int .i64 c.so) ∧ w.cell? ⟨W.heap.size, 2, none⟩ = some (.int .i64 c.k) ∧ w.cell? ⟨W.heap.size, 3, none⟩ = some (.int .i64 c.sz) ∧ w.cell? ⟨W.heap.size, 4, none⟩ = some (.int .i64 c.sl) ∧ w.cell? ⟨W.heap.size, 5, none⟩ = some (.int .i64 c.o) ∧ w.cell? ⟨W.heap.size, 6, none⟩ = some (.int .i64 c.ga) ∧ w.cell? ⟨W.heap.size, 7, none⟩ = some (.int .i64 c.la) ∧ w.cell? ⟨W.heap.size, 8, none⟩ = some (.int .i64 c.ea) ∧ w.cell? ⟨W.heap.size, 9, none⟩ = some (.bool c.di)) := Lib.hid fun w hb => by
        have h1 := hbk.below hb
        exact ⟨h1.cell 0, h1.cell 1, h1.cell 2, h1.cell 3, h1.cell 4, h1.cell 5, h1.cell 6, h1.cell 7, h1.cell 8, h1.cell 9⟩
      clear hRf hok hbk hbel hdl hrd4 hcu hz ha hK hS hD hnx h0
      obtain ⟨wo, rfl⟩ : ∃ wo : World, wo = wr := ⟨_, rfl⟩
      go_upto_region 7 with (fail)
      go_cut [8, 9, 10] (fun s8 s9 s10 wx => ∃ (g8 : Nat) (Ax : Option Addr) (cx : Nat), s8 = .pointer (some ⟨g8, 0, none⟩) ∧ s9 = .int .i64 (a : Int) ∧ s10 = .int .i64 z ∧ Bk wx g8 29 #[.string S, .int .i64 D, .slice Ax nx cx] ∧ wx.ownsRow wo.heap.size 93 9 (.slice Ax nx cx) nx (wcells K.ws) ∧ Below wo.heap.size wo wx)
      case first =>
        go_wp2
        go_region_held3 (fun w => w.cell? ⟨W.heap.size, 0, none⟩ = some (.int .i64 c.g) ∧ w.cell? ⟨W.heap.size, 1, none⟩ = some (.int .i64 c.so) ∧ w.cell? ⟨W.heap.size, 2, none⟩ = some (.int .i64 c.k) ∧ w.cell? ⟨W.heap.size, 3, none⟩ = some (.int .i64 c.sz) ∧ w.cell? ⟨W.heap.size, 4, none⟩ = some (.int .i64 c.sl) ∧ w.cell? ⟨W.heap.size, 5, none⟩ = some (.int .i64 c.o) ∧ w.cell? ⟨W.heap.size, 6, none⟩ = some (.int .i64 c.ga) ∧ w.cell? ⟨W.heap.size, 7, none⟩ = some (.int .i64 c.la) ∧ w.cell? ⟨W.heap.size, 8, none⟩ = some (.int .i64 c.ea) ∧ w.cell? ⟨W.heap.size, 9, none⟩ = some (.bool c.di))
          (first
            | exact HST.out _ (below_drew wo)
            | exact HST.out _ (below_alloc wo (.cells #[.string ⟨#[]⟩, .int .i64 0, .slice none 0 0] 29)).drew
            | exact HST.out _ ((below_drew wo).alloc (by simp) (.cells #[.string ⟨#[]⟩, .int .i64 0, .slice none 0 0] 29))
            | exact HST.out _ HB2.out
            | exact HST.out _ (HB2.out.alloc HB2.out.size _)
            | exact HST.out _ HB11.out)
          ((first
            | (go_at_call 12; (with_reducible refine (HRQ.out (wo.alloc (.cells #[.string ⟨#[]⟩, .int .i64 0, .slice none 0 0] 29)).drew (below_alloc wo (.cells #[.string ⟨#[]⟩, .int .i64 0, .slice none 0 0] 29)).drew).mono ?_); rintro e w2 ⟨Ax, cx, rfl, hb2, ho2⟩
               have hb := below_trans (below_alloc wo (.cells #[.string ⟨#[]⟩, .int .i64 0, .slice none 0 0] 29)).drew hb2
               have HB2 := Lib.hid hb
               have hz2 := Bk.below (w := (wo.alloc (.cells #[.string ⟨#[]⟩, .int .i64 0, .slice none 0 0] 29)).drew) (Bk.new wo 29 #[.string ⟨#[]⟩, .int .i64 0, .slice none 0 0]) hb2
               have f0 := hz2.frozen 0
               have f1 := hz2.frozen 1
               have f2 := hz2.frozen 2
               have q0 := hz2.cell 0
               have q1 := hz2.cell 1
               have q2 := hz2.cell 2
               have ho := own_mono ho2 (base' := wo.heap.size) (by simp)
               have HB11 : Hid (Below wo.heap.size wo (((w2.setCell ⟨wo.heap.size, 0, none⟩ (.string S)).setCell ⟨wo.heap.size, 1, none⟩ (.int .i64 D)).setCell ⟨wo.heap.size, 2, none⟩ (.slice Ax nx cx))) := Lib.hid (((hb.setCell (p := ⟨wo.heap.size, 0, none⟩) (Nat.le_refl _) _).setCell (p := ⟨wo.heap.size, 1, none⟩) (Nat.le_refl _) _).setCell (p := ⟨wo.heap.size, 2, none⟩) (Nat.le_refl _) _)
               have HFIN : Hid (_ ∧ _ ∧ _) := Lib.hid ⟨((hz2.set 0 (.string S)).set 1 (.int .i64 D)).set 2 (.slice Ax nx cx), own_set (own_set (own_set ho hz2 (by decide) 0 (.string S)) (hz2.set 0 _) (by decide) 1 (.int .i64 D)) ((hz2.set 0 _).set 1 _) (by decide) 2 (.slice Ax nx cx), HB11.out⟩
               clear hb2 ho2 hb hz2 ho)
            | (go_at_call 12; (with_reducible refine (HRQ.out wo.drew (below_drew wo)).mono ?_); rintro e w2 ⟨Ax, cx, rfl, hb2, ho2⟩
               have hb := below_trans (below_drew wo) hb2
               have HB2 := Lib.hid hb
               have ho := own_mono ho2 (base' := wo.heap.size) (by simp)
               have HFIN : Hid (_ ∧ _ ∧ _) := Lib.hid ⟨Bk.new w2 29 #[.string S, .int .i64 D, .slice Ax nx cx], ho.alloc (.cells #[.string S, .int .i64 D, .slice Ax nx cx] 29), hb.alloc hb.size (.cells #[.string S, .int .i64 D, .slice Ax nx cx] 29)⟩
               clear hb2 ho2 hb ho)))
        all_goals go_wp2
        all_goals go_meet
        all_goals exact ⟨_, _, _, rfl, rfl, rfl, HFIN.out⟩
      case rest =>
        obtain ⟨g8, Ax, cx, rfl, rfl, rfl, hx, hox, hbx⟩ := hcut
        have y0 : wc.cell? ⟨g8, 0, none⟩ = some (.string S) := hx.cell 0
        have y1 : wc.cell? ⟨g8, 1, none⟩ = some (.int .i64 D) := hx.cell 1
        have y2 : wc.cell? ⟨g8, 2, none⟩ = some (.slice Ax nx cx) := hx.cell 2
        have HBW : Hid (Below W.heap.size W wc) := Lib.hid (below_trans HBEL.out hbx)
        have HBX := Lib.hid hbx
        have HBC : Hid (Bk wc W.heap.size 24 #[.int .i64 c.g, .int .i64 c.so, .int .i64 c.k, .int .i64 c.sz, .int .i64 c.sl, .int .i64 c.o, .int .i64 c.ga, .int .i64 c.la, .int .i64 c.ea, .bool c.di]) := Lib.hid (HBK.out.below hbx)
        have hgl8 := hx.lt
        rcases HRE2.out with ⟨hz0, hk⟩ | ⟨hz1, hk⟩
        · subst hz0
          have hRk : R = if notUp (l.map Km.k) K then none else rdAll c f (cu.drop a) (l.map Km.k ++ [K]) := by have := HRF.out; rw [hk] at this; exact this
          have HRK := Lib.hid hRk
          have hle := (rdKey_le hk).1
          have hps := (rdKey_pos hk).1
          rw [HDL.out] at hle
          have HCD : Hid (cu.drop a = bs.drop (at_ + a)) := Lib.hid (by rw [← HCU.out, List.drop_drop])
          have HKC : Hid ((⟨K, Ax, cx⟩ : Km).cells = [.string S, .int .i64 D, .slice Ax nx cx]) := Lib.hid (by show [Value.string K.key, .int .i64 K.dr, .slice Ax K.ws.length cx] = _; rw [HS.out, HDD.out, HNX.out])
          have HONE : Hid (∀ u ∈ ([.string S, .int .i64 D, .slice Ax nx cx] : List Value), u.oneCell' = true) := Lib.hid (by simp [Value.oneCell'])
          have HKM : Hid (Km.Own wc W.heap.size ⟨K, Ax, cx⟩) := Lib.hid (by
            show wc.ownsRow W.heap.size 93 9 (.slice Ax K.ws.length cx) K.ws.length (wcells K.ws)
            rw [HNX.out]
            exact own_mono hox HBEL.out.size)
          have HST2 : Hid (∀ nq, let w := (wc.drewN nq).alloc (.cells #[.string S, .int .i64 D, .slice Ax nx cx] 29)
              Oks w W.heap.size (.slice Ao l.length co) l.length l ∧ Km.Own w W.heap.size ⟨K, Ax, cx⟩ ∧ Rd w (.slice (some ⟨wc.heap.size, 0, none⟩) 1 1) 1 [.string S, .int .i64 D, .slice Ax nx cx] ∧ Below W.heap.size W w) := Lib.hid fun nq => by
            have hb : Below wc.heap.size wc ((wc.drewN nq).alloc (.cells #[.string S, .int .i64 D, .slice Ax nx cx] 29)) := (bel_drewN (Below.refl _ _) nq).alloc (by simp) _
            refine ⟨(HOK.out.below HBX.out).below hb, HKM.out.below hb, ?_, below_trans HBW.out hb⟩
            exact Rd.of_owns (own_lit (base := 0) (size := 3) _ _ 1 _ (by simp) (Nat.zero_le _) (by unfold maxLen; omega) rfl)
          clear hRk hk hx hox hbx
          have hw9 : IntKind.i64.wrap ((at_ : Int) + (a : Int)) = (at_ : Int) + (a : Int) := IntWalk.i64_in _ (by omega)
          cases l with
          | nil =>
            simp only [List.length_nil] at hco1 hlm HST2 ⊢
            have HST := HST2
            go_wp2
            go_quiet (fail)
            go_wp2_with (at_builtin; refine wpList_append_rd _ rfl (.tmp 46) (.tmp 48) 43 rfl W.heap.size 29 iK _ 3 48 Try.underlying43 hiK hK0 hK1 hK2 rfl (by decide) _ 0 _ rfl (HST.out _).1.own (some ⟨wc.heap.size, 0, none⟩) 1 1 [.string S, .int .i64 D, .slice Ax nx cx] rfl rfl (HST.out _).2.2.1 HONE.out (by simp only [maxLen]; omega) (by omega) (HST.out _).2.2.2.size ?_; intro v3 w3 ho3 hg3 hat3; have HO3 : Hid (Oks w3 W.heap.size v3 (0 + 1) ([] ++ [⟨K, Ax, cx⟩])) := Lib.hid ((HST.out _).1.snoc (HST.out _).2.1 (by rw [HKC.out]; exact ho3) hg3); have HB3 : Hid (Below W.heap.size W w3) := Lib.hid ((HST.out _).1.bel (HST.out _).2.2.2 hg3); have HK3 : Hid (Bk w3 W.heap.size 24 #[.int .i64 c.g, .int .i64 c.so, .int .i64 c.k, .int .i64 c.sz, .int .i64 c.sl, .int .i64 c.o, .int .i64 c.ga, .int .i64 c.la, .int .i64 c.ea, .bool c.di]) := Lib.hid ((HST.out _).1.bk (((HBC.out.drewN _).alloc _)) (by decide) hg3); obtain ⟨A3, cap3, hv3, hc31, hc32⟩ := ownsRow_shape ho3; subst hv3; clear ho3 hg3 hat3)
            go_roundw
            case rel => exact ⟨at_ + a, f, A3, cap3, [] ++ [⟨K, Ax, cx⟩], by go_num, by simp, by omega, by omega, by rw [HRK.out, if_neg (by simp [notUp]), HCD.out]; simp, by simpa using HO3.out, HK3.out, HB3.out, by simp; omega⟩
            case measure => simp [intOf]; omega
          | cons y0' l0 =>
            obtain ⟨y, hy⟩ : ∃ y, (y0' :: l0)[l0.length]? = some y := ⟨_, List.getElem?_eq_getElem (by simp)⟩
            obtain ⟨g, hg, -, hgl, -⟩ := ownsRow_at HOK.out.own (by simp)
            subst hg
            obtain ⟨g', off, hA, -, hz, -, -⟩ := rks_at HOK.out.rks hy
            cases hA
            obtain ⟨p, hp⟩ : ∃ p, l0.length = p := ⟨_, rfl⟩
            have hnu : notUp (((y0' :: l0).map Km.k)) K = !Op.bytesLess y.k.key.toList S.toList := by
              unfold notUp
              rw [List.getLast?_eq_getElem?, List.length_map, List.length_cons, Nat.add_sub_cancel, List.getElem?_map, hy]
              show geS y.k.key K.key = _
              rw [HS.out]
              rfl
            obtain ⟨YK, hYK⟩ : ∃ YK, y.k.key = YK := ⟨_, rfl⟩
            rw [hYK] at hnu hz
            have z0 : wc.cell? ⟨g, l0.length * 3, none⟩ = some (.string YK) := by
              have := HBX.out.cell (p := ⟨g, l0.length * 3, none⟩) hgl
              rw [this]; simpa using hz
            simp only [List.length_cons] at hco1 hlm HST2 ⊢
            have HNU := Lib.hid hnu
            have HP := Lib.hid hp
            rw [hp] at hlm hco1 HST2 z0 ⊢
            clear hy hgl hz hYK hnu hp
            have hw1 : IntKind.i64.wrap (p : Int) = (p : Int) := IntWalk.i64_in _ (by omega)
            have hw2 : IntKind.i64.wrap ((p : Int) + 1 - 1) = (p : Int) := by rw [Int.add_sub_cancel]; exact hw1
            have hw3 : IntKind.i64.wrap ((p : Int) + 1) = (p : Int) + 1 := IntWalk.i64_in _ (by omega)
            have hi0 : (0 : Int) ≤ (p : Int) := by omega
            have hin : (p : Int) < (p : Int) + 1 := by omega
            have hin' : p < p + 1 := by omega
            have hd0 : decide ((0 : Int) < (p : Int) + 1) = true := by rw [decide_eq_true_eq]; omega
            have HST := HST2
            cases hbl : Op.bytesLess YK.toList S.toList with
            | false =>
              have HBL2 := Lib.hid hbl
              go_wp2
              go_quiet (fail)
              go_wp2
              go_ret2
              have hno : R = none := by rw [HRK.out, HNU.out, HBL2.out]; rfl
              subst hno
              exact ⟨bel_drewN HBW.out _, rfl⟩
            | true =>
              have HBL2 := Lib.hid hbl
              go_wp2
              go_quiet (fail)
              go_wp2_with (at_builtin; refine wpList_append_rd _ rfl (.tmp 46) (.tmp 48) 43 rfl W.heap.size 29 iK _ 3 48 Try.underlying43 hiK hK0 hK1 hK2 rfl (by decide) _ (p + 1) _ rfl (HST.out _).1.own (some ⟨wc.heap.size, 0, none⟩) 1 1 [.string S, .int .i64 D, .slice Ax nx cx] rfl rfl (HST.out _).2.2.1 HONE.out (by simp only [maxLen]; omega) (by omega) (HST.out _).2.2.2.size ?_; intro v3 w3 ho3 hg3 hat3; have HO3 : Hid (Oks w3 W.heap.size v3 ((p + 1) + 1) ((y0' :: l0) ++ [⟨K, Ax, cx⟩])) := Lib.hid ((HST.out _).1.snoc (HST.out _).2.1 (by rw [HKC.out]; exact ho3) hg3); have HB3 : Hid (Below W.heap.size W w3) := Lib.hid ((HST.out _).1.bel (HST.out _).2.2.2 hg3); have HK3 : Hid (Bk w3 W.heap.size 24 #[.int .i64 c.g, .int .i64 c.so, .int .i64 c.k, .int .i64 c.sz, .int .i64 c.sl, .int .i64 c.o, .int .i64 c.ga, .int .i64 c.la, .int .i64 c.ea, .bool c.di]) := Lib.hid ((HST.out _).1.bk (((HBC.out.drewN _).alloc _)) (by decide) hg3); obtain ⟨A3, cap3, hv3, hc31, hc32⟩ := ownsRow_shape ho3; subst hv3; clear ho3 hg3 hat3)
              go_roundw
              case rel => exact ⟨at_ + a, f, A3, cap3, (y0' :: l0) ++ [⟨K, Ax, cx⟩], by go_num, by simp [HP.out], by omega, by omega, by rw [HRK.out, HNU.out, HBL2.out, if_neg (by simp), HCD.out]; simp, by simpa [HP.out] using HO3.out, HK3.out, HB3.out, by simp [HP.out]; omega⟩
              case measure => simp [intOf]; omega
        · subst hz1
          have hno : Hid (R = none) := Lib.hid (by have := HRF.out; rw [hk] at this; exact this)
          clear hk hx hox hbx
          go_wp2
          go_quiet (fail)
          go_wp2
          go_ret2
          obtain rfl := hno.out
          exact ⟨bel_drewN HBW.out _, rfl⟩
end Go.Proofs.Ytaechgnjdjijkaa
