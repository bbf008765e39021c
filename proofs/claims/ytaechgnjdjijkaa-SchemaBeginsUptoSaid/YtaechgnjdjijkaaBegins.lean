/- SchemaBegins: walked. -/
import Derived.Test.YtaechgnjdjijkaaKnown3
import Derived.Test.YtaechgnjdjijkaaBack2
import Derived.Test.YtaechgnjdjijkaaFront
namespace Go.Proofs.Ytaechgnjdjijkaa
open Go.RowKit Go.Lib

theorem Put_all (c : Cf) (hf : c.Fit) (k : Kn) (hkf : k.Fit) (kv : Value) (W : World) (hr : Rk W kv k) (hn : k.key.size + 90 * k.ws.length + 200 ≤ 140737488355328) :
    Calls Try.prog 19 #[c.val, kv] W fun e w' => ∃ A n cap, e = .returned (.tuple #[.slice A n cap, .int .i64 (putE c k)]) ∧ Below W.heap.size W w' ∧ w'.ownsRow W.heap.size 5 1 (.slice A n cap) n (bc (if putE c k = 0 then keyBytes k else [])) ∧ (if putE c k = 0 then keyBytes k else []).length = n := by
  by_cases he : putE c k = 0
  · rw [he]
    refine (Put_ok c hf k hkf kv W hr he hn).mono fun e w' => ?_
    rintro ⟨v', rfl, h1, h2⟩
    obtain ⟨A, cap, hv, -⟩ := ownsRow_shape h2
    subst hv
    exact ⟨A, _, cap, rfl, h1, h2, rfl⟩
  · refine (Put_bad c hf k kv W hr he).mono fun e w' => ?_
    rintro ⟨rfl, h1⟩
    refine ⟨none, 0, 0, rfl, h1, ?_, ?_⟩
    · rw [if_neg he]; exact World.ownsRow_nil _ _ _ _
    · rw [if_neg he]; rfl
theorem putE_cases (c : Cf) (k : Kn) : putE c k = 0 ∨ putE c k = 4 ∨ putE c k = 6 := by
  unfold putE; split
  · split
    · exact .inl rfl
    · exact .inr (.inr rfl)
  · exact .inr (.inl rfl)
set_option maxRecDepth 100000 in
set_option maxHeartbeats 1000000 in
theorem begins_any (c : Cf) (hf : c.Fit) (j k : Kn) (hjf : j.Fit) (hkf : k.Fit) (cut : Int) (hcut : In64 cut) (vj vk : Value) (W : World) (rj : Rk W vj j) (rk : Rk W vk k)
    (nj : j.key.size + 90 * j.ws.length + 200 ≤ 8796093022208) (nk : k.key.size + 90 * k.ws.length + 200 ≤ 8796093022208) :
    Calls Try.prog 4 #[c.val, vj, vk, .int .i64 cut] W fun e w' => e = .returned (.bool true) ∧ Below W.heap.size W w' := by
  have HKN := Lib.hid known_any
  have HNU := Lib.hid num_any
  have HPJ : Hid (∀ w, Below W.heap.size W w → Calls Try.prog 19 #[c.val, vj] w _) := Lib.hid fun w hb => Put_all c hf j hjf vj w (rj.below hb) (by omega)
  have HPK : Hid (∀ w, Below W.heap.size W w → Calls Try.prog 19 #[c.val, vk] w _) := Lib.hid fun w hb => Put_all c hf k hkf vk w (rk.below hb) (by omega)
  have HKY : Hid (∀ w, Below W.heap.size W w → Calls Try.prog 15 #[vj, vk] w fun e w' => e = .returned (.bool (kEq j k)) ∧ Below w.heap.size w w') := Lib.hid fun w hb => kitKey_any j k vj vk w (rj.below hb) (rk.below hb)
  have HRD : Hid (∀ (A : Option Addr) (m cap : Nat) (bs : List UInt8) (w : World), job c = true → Rd w (.slice A m cap) m (bc bs) → bs.length = m → m ≤ 8796093022208 → Calls Try.prog 10 #[c.val, .slice A m cap] w (ReadAns w (rdKey c bs 0))) := Lib.hid fun A m cap bs w hj hr h1 h2 => Read_any c hf hj A m cap bs w hr h1 h2
  have hlj := fun (h : putE c j = 0) => keyBytes_len (putE_ok h).2 hjf (by omega)
  have HLJ : Hid (putE c j = 0 → (keyBytes j).length ≤ 8796093022208) := Lib.hid fun h => by have := hlj h; omega
  have HLK : Hid (putE c k = 0 → (keyBytes k).length ≤ 8796093022208) := Lib.hid fun h => by have := keyBytes_len (putE_ok h).2 hkf (by omega); omega
  have HCUT : Hid (putE c j = 0 → ∀ m, m < (keyBytes j).length → rdKey c ((keyBytes j).take m) 0 = none ∧ skTo ((keyBytes j).take m) 0 = none) := Lib.hid fun h m hm => cut_no c j hjf h (by omega) hm
  have HSAME : Hid (putE c j = 0 → putE c k = 0 → kEq j k = false → ((keyBytes j).take (min (keyBytes j).length (keyBytes k).length) == (keyBytes k).take (min (keyBytes j).length (keyBytes k).length)) = false) := Lib.hid fun h1 h2 h3 => by
    rw [beq_eq_false_iff_ne]
    intro h
    have := begin_same c j k hjf hkf h1 h2 (by omega) (by omega) h
    rw [kEq_iff.2 this] at h3
    cases h3
  have HJOB : Hid (putE c j = 0 → job c = true) := Lib.hid fun h => (putE_ok h).1
  obtain ⟨pj, hpj⟩ : ∃ pj, putE c j = pj := ⟨_, rfl⟩
  obtain ⟨pk, hpk⟩ : ∃ pk, putE c k = pk := ⟨_, rfl⟩
  have cj : pj = 0 ∨ pj = 4 ∨ pj = 6 := by rw [← hpj]; exact putE_cases c j
  have ck' : pk = 0 ∨ pk = 4 ∨ pk = 6 := by rw [← hpk]; exact putE_cases c k
  obtain ⟨KJ, hKJ⟩ : ∃ KJ, keyBytes j = KJ := ⟨_, rfl⟩
  obtain ⟨KK, hKK⟩ : ∃ KK, keyBytes k = KK := ⟨_, rfl⟩
  obtain ⟨Q, hQ⟩ : ∃ Q, kEq j k = Q := ⟨_, rfl⟩
  have hKJp : 0 < KJ.length := by rw [← hKJ]; exact keyBytes_pos j
  rw [hpj, hKJ] at HPJ HLJ HCUT
  rw [hpk, hKK] at HPK HLK
  rw [hpj, hpk, hKJ, hKK, hQ] at HSAME
  rw [hpj] at HJOB
  rw [hQ] at HKY
  obtain ⟨A1, c1, rfl, -⟩ := rj
  obtain ⟨A2, c2, rfl, -⟩ := rk
  clear hlj hpj hpk hKJ hKK hQ nj nk
  obtain ⟨S1, D1, L1⟩ := j
  obtain ⟨S2, D2, L2⟩ := k
  obtain ⟨cg, cso, ck, csz, csl, co, cga, cla, cea, cdi⟩ := c
  unfold Cf.val at *
  simp only at HPJ HPK HKY HRD ⊢
  clear hjf hkf hf
  generalize L1.length = n1 at *
  generalize L2.length = n2 at *
  obtain ⟨rk, hrk⟩ : ∃ rk, (fun bs => rdKey ⟨cg, cso, ck, csz, csl, co, cga, cla, cea, cdi⟩ bs 0) = rk := ⟨_, rfl⟩
  have hrk' : ∀ bs, rdKey ⟨cg, cso, ck, csz, csl, co, cga, cla, cea, cdi⟩ bs 0 = rk bs := fun bs => by rw [← hrk]
  simp only [hrk'] at HRD HCUT
  obtain ⟨J, hJ⟩ : ∃ J, job ⟨cg, cso, ck, csz, csl, co, cga, cla, cea, cdi⟩ = J := ⟨_, rfl⟩
  simp only [hJ] at HRD HJOB
  clear hrk hrk' hJ
  obtain ⟨w1, hw1⟩ : ∃ w1, ((W.alloc (.cells #[.int .i64 cg, .int .i64 cso, .int .i64 ck, .int .i64 csz, .int .i64 csl, .int .i64 co, .int .i64 cga, .int .i64 cla, .int .i64 cea, .bool cdi] 24)).alloc (.cells #[.string S1, .int .i64 D1, .slice A1 n1 c1] 29)).alloc (.cells #[.string S2, .int .i64 D2, .slice A2 n2 c2] 29) = w1 := ⟨_, rfl⟩
  have HB1 : Hid (Below W.heap.size W w1) := Lib.hid (by subst hw1; exact ((below_alloc W _).alloc (by simp) _).alloc (by simp; omega) _)
  have hbc : Bk w1 W.heap.size 24 #[.int .i64 cg, .int .i64 cso, .int .i64 ck, .int .i64 csz, .int .i64 csl, .int .i64 co, .int .i64 cga, .int .i64 cla, .int .i64 cea, .bool cdi] := by subst hw1; exact ((Bk.new W _ _).alloc _).alloc _
  have hbj : Bk w1 (W.heap.size + 1) 29 #[.string S1, .int .i64 D1, .slice A1 n1 c1] := by subst hw1; exact (Bk.new' _ _ _ _ (by simp)).alloc _
  have hbk : Bk w1 (W.heap.size + 1 + 1) 29 #[.string S2, .int .i64 D2, .slice A2 n2 c2] := by subst hw1; exact Bk.new' _ _ _ _ (by simp)
  have HC : Hid (∀ w, Below w1.heap.size w1 w → (Bk w W.heap.size 24 #[.int .i64 cg, .int .i64 cso, .int .i64 ck, .int .i64 csz, .int .i64 csl, .int .i64 co, .int .i64 cga, .int .i64 cla, .int .i64 cea, .bool cdi] ∧ Bk w (W.heap.size + 1) 29 #[.string S1, .int .i64 D1, .slice A1 n1 c1] ∧ Bk w (W.heap.size + 1 + 1) 29 #[.string S2, .int .i64 D2, .slice A2 n2 c2])) := Lib.hid fun w hb => ⟨hbc.below hb, hbj.below hb, hbk.below hb⟩
  clear hbc hbj hbk
  go_enter Try.func4, Try.ntmps4
  go_wp2_with fail
  refine (HKN.out w1).mono ?_
  rintro e w2 ⟨rfl, hb2⟩
  have HB2 := Lib.hid hb2
  obtain ⟨xc, xj, -⟩ := HC.out _ hb2
  have x0 := xc.cell 0
  have x1 := xc.cell 1
  have x2 := xc.cell 2
  have x3 := xc.cell 3
  have x4 := xc.cell 4
  have x5 := xc.cell 5
  have x6 := xc.cell 6
  have x7 := xc.cell 7
  have x8 := xc.cell 8
  have x9 := xc.cell 9
  have j0 := xj.cell 0
  have j1 := xj.cell 1
  have j2 := xj.cell 2
  clear hb2
  go_wp2_with fail
  refine (HPJ.out _ (HB1.out.trans (HB2.out.mono HB1.out.size))).mono ?_
  rintro e w3 ⟨A3, n3, p3, rfl, hb3, ho3, hl3⟩
  have HB3 := Lib.hid (below_trans HB2.out hb3)
  have HR3 := Lib.hid (Rd.of_owns ho3)
  have hm3 : n3 ≤ p3 ∧ p3 ≤ maxLen := by obtain ⟨_, _, hv, h1, h2⟩ := ownsRow_shape ho3; cases hv; exact ⟨h1, h2⟩
  clear x0 x1 x2 x3 x4 x5 x6 x7 x8 x9 j0 j1 j2 hb3 ho3 xc xj HPJ
  obtain ⟨xc, xj, xk⟩ := HC.out _ HB3.out
  have x0 := xc.cell 0
  have x1 := xc.cell 1
  have x2 := xc.cell 2
  have x3 := xc.cell 3
  have x4 := xc.cell 4
  have x5 := xc.cell 5
  have x6 := xc.cell 6
  have x7 := xc.cell 7
  have x8 := xc.cell 8
  have x9 := xc.cell 9
  have k0 := xk.cell 0
  have k1 := xk.cell 1
  have k2 := xk.cell 2
  go_wp2_with fail
  refine (HPK.out _ (HB1.out.trans (HB3.out.mono HB1.out.size))).mono ?_
  rintro e w4 ⟨A4, n4, p4, rfl, hb4, ho4, hl4⟩
  have HB4 := Lib.hid (below_trans HB3.out hb4)
  have HR34 : Hid (Rd w4 (.slice A3 n3 p3) n3 (bc (if pj = 0 then KJ else []))) := Lib.hid (HR3.out.below hb4)
  have HR4 := Lib.hid (Rd.of_owns ho4)
  have hm4 : n4 ≤ p4 ∧ p4 ≤ maxLen := by obtain ⟨_, _, hv, h1, h2⟩ := ownsRow_shape ho4; cases hv; exact ⟨h1, h2⟩
  clear x0 x1 x2 x3 x4 x5 x6 x7 x8 x9 k0 k1 k2 hb4 ho4 xc xj xk HR3 HPK
  have HBE := Lib.hid (HB1.out.trans (HB4.out.mono HB1.out.size))
  by_cases hz : pj = 0 ∧ pk = 0
  · obtain ⟨rfl, rfl⟩ := hz
    rw [if_pos rfl] at hl3 HR34 hl4 HR4
    subst hl3 hl4
    have HSM := Lib.hid (HSAME.out rfl rfl)
    have hlj := HLJ.out rfl
    have hlk := HLK.out rfl
    have hjob := HJOB.out rfl
    have HRE := Lib.hid (fun A m cap bs w h1 h2 h3 => HRD.out A m cap bs w hjob h1 h2 h3)
    have HCU := Lib.hid (HCUT.out rfl)
    clear HSAME HLJ HLK HJOB HRD HCUT hjob cj ck'
    obtain ⟨lj, hlj'⟩ : ∃ lj, KJ.length = lj := ⟨_, rfl⟩
    obtain ⟨lk, hlk'⟩ : ∃ lk, KK.length = lk := ⟨_, rfl⟩
    rw [hlj'] at hlj hKJp HR34 hm3 HSM HCU ⊢
    rw [hlk'] at hlk HR4 hm4 HSM ⊢
    have HLJ := Lib.hid hlj'
    have HLK := Lib.hid hlk'
    clear hlj' hlk'
    unfold maxLen at hm3 hm4
    obtain ⟨lm, hlm⟩ : ∃ lm, min lj lk = lm := ⟨_, rfl⟩
    rw [hlm] at HSM
    have hlmi : min (lj : Int) (lk : Int) = (lm : Int) := by omega
    go_wp2_with (first
      | (go_at_call 14; (with_reducible refine (HNU.out _ _).mono ?_); rintro e w ⟨rfl, rfl⟩))
    have hml : lm ≤ lj ∧ lm ≤ lk := by omega
    obtain ⟨A5, p5, hs5, hr5⟩ := run_rd_front HR34.out lm hml.1
    obtain ⟨A6, p6, hs6, hr6⟩ := run_rd_front HR4.out lm hml.2
    have HR5 := Lib.hid hr5
    have HR6 := Lib.hid hr6
    obtain ⟨xc, xj, xk⟩ := HC.out _ HB4.out
    have j0 := xj.cell 0
    have j1 := xj.cell 1
    have j2 := xj.cell 2
    have k0 := xk.cell 0
    have k1 := xk.cell 1
    have k2 := xk.cell 2
    have HKC : Hid (∀ w, Below w4.heap.size w4 w → (w.cell? ⟨W.heap.size + 1, 0, none⟩ = some (.string S1) ∧ w.cell? ⟨W.heap.size + 1, 1, none⟩ = some (.int .i64 D1) ∧ w.cell? ⟨W.heap.size + 1, 2, none⟩ = some (.slice A1 n1 c1)) ∧ w.cell? ⟨W.heap.size + 1 + 1, 0, none⟩ = some (.string S2) ∧ w.cell? ⟨W.heap.size + 1 + 1, 1, none⟩ = some (.int .i64 D2) ∧ w.cell? ⟨W.heap.size + 1 + 1, 2, none⟩ = some (.slice A2 n2 c2)) := Lib.hid fun w hb => by
      obtain ⟨-, yj, yk⟩ := HC.out _ (below_trans HB4.out hb)
      exact ⟨⟨yj.cell 0, yj.cell 1, yj.cell 2⟩, yk.cell 0, yk.cell 1, yk.cell 2⟩
    clear hr5 hr6 xc xj xk
    have hkeys : ∀ w, Below w4.heap.size w4 w → Below W.heap.size W w := fun w hb => HBE.out.trans (hb.mono HBE.out.size)
    have HKEYS := Lib.hid hkeys
    clear hkeys
    go_cut [66] (fun s66 wx => s66 = .bool false ∧ Below w4.heap.size w4 wx)
    case first =>
      have HBD : Hid (Below w4.heap.size w4 w4.drew) := Lib.hid (below_drew w4)
      cases Q with
      | true =>
        refine wp_region_held_drew (S := (fun w => Below w4.heap.size w4 w ∧ (w.cell? ⟨W.heap.size + 1, 0, none⟩ = some (.string S1) ∧ w.cell? ⟨W.heap.size + 1, 1, none⟩ = some (.int .i64 D1) ∧ w.cell? ⟨W.heap.size + 1, 2, none⟩ = some (.slice A1 n1 c1)) ∧ w.cell? ⟨W.heap.size + 1 + 1, 0, none⟩ = some (.string S2) ∧ w.cell? ⟨W.heap.size + 1 + 1, 1, none⟩ = some (.int .i64 D2) ∧ w.cell? ⟨W.heap.size + 1 + 1, 2, none⟩ = some (.slice A2 n2 c2))) (by kernel_rfl) ⟨HBD.out, HKC.out _ HBD.out⟩ (fun hHeld => ?_)
        refine wpAnyH_take (i := 0) (oi := ⟨some 54, _, _, _, _, _⟩) (v := .agg #[.string S1, .int .i64 D1, .slice A1 n1 c1]) rfl (by kernel_rfl) (by kernel_rfl) (by kernel_rfl) (fun _ _ _ h => h) (Or.inl ⟨by rfl, ?_⟩) (by assumption) ?_
        · (intro w hSw; obtain ⟨-, ⟨y0, y1, y2⟩, z0, z1, z2⟩ := hSw; go_simp)
        try simp only [Act.put, List.setIfInBounds_toArray, List.set_cons_zero, List.set_cons_succ]
        refine wpAnyH_take (i := 1) (oi := ⟨some 55, _, _, _, _, _⟩) (v := .agg #[.string S2, .int .i64 D2, .slice A2 n2 c2]) rfl (by kernel_rfl) (by kernel_rfl) (by kernel_rfl) (fun _ _ _ h => h) (Or.inl ⟨by rfl, ?_⟩) (by assumption) ?_
        · (intro w hSw; obtain ⟨-, ⟨y0, y1, y2⟩, z0, z1, z2⟩ := hSw; go_simp)
        try simp only [Act.put, List.setIfInBounds_toArray, List.set_cons_zero, List.set_cons_succ]
        refine wpAnyH_ready (rs := [2]) (by kernel_rfl) (by simp) ?_
        refine AllReadyH.cons rfl (fun K hK => ?_) AllReadyH.nil
        go_simp
        (go_at_call 15; (with_reducible refine (HKY.out _ (HKEYS.out _ HBD.out)).mono ?_); rintro e w5 ⟨rfl, hb5'⟩; have hb5 : Below w4.heap.size w4 w5 := below_trans (below_drew w4) hb5')
        clear hHeld
        refine hK.out _ _ ⟨hb5, HKC.out _ hb5⟩ (fun hHeld => ?_)
        clear hK
        try simp only [Act.put, List.setIfInBounds_toArray, List.set_cons_zero, List.set_cons_succ]
        refine wpAnyH_take (i := 3) (oi := ⟨some 57, _, _, _, _, _⟩) (v := .bool false) rfl (by kernel_rfl) (by kernel_rfl) (by kernel_rfl) (fun _ _ _ h => h) (Or.inl ⟨by rfl, ?_⟩) (by assumption) ?_
        · (intro w hSw; obtain ⟨-, ⟨y0, y1, y2⟩, z0, z1, z2⟩ := hSw; go_simp)
        try simp only [Act.put, List.setIfInBounds_toArray, List.set_cons_zero, List.set_cons_succ]
        refine wpAnyH_take (i := 4) (oi := ⟨some 58, _, _, _, _, _⟩) (v := .bool false) rfl (by kernel_rfl) (by kernel_rfl) (by kernel_rfl) (fun _ _ _ h => h) (Or.inl ⟨by rfl, ?_⟩) (by assumption) ?_
        · (intro w hSw; obtain ⟨-, ⟨y0, y1, y2⟩, z0, z1, z2⟩ := hSw; go_simp)
        try simp only [Act.put, List.setIfInBounds_toArray, List.set_cons_zero, List.set_cons_succ]
        refine wpAnyH_take (i := 5) (oi := ⟨some 59, _, _, _, _, _⟩) (v := undef) rfl (by kernel_rfl) (by kernel_rfl) (by kernel_rfl) (fun _ _ _ h => h) (Or.inr ⟨by rfl, rfl⟩) (by assumption) ?_
        try simp only [Act.put, List.setIfInBounds_toArray, List.set_cons_zero, List.set_cons_succ]
        refine wpAnyH_take (i := 6) (oi := ⟨some 60, _, _, _, _, _⟩) (v := undef) rfl (by kernel_rfl) (by kernel_rfl) (by kernel_rfl) (fun _ _ _ h => h) (Or.inr ⟨by rfl, rfl⟩) (by assumption) ?_
        try simp only [Act.put, List.setIfInBounds_toArray, List.set_cons_zero, List.set_cons_succ]
        refine wpAnyH_take (i := 7) (oi := ⟨some 61, _, _, _, _, _⟩) (v := undef) rfl (by kernel_rfl) (by kernel_rfl) (by kernel_rfl) (fun _ _ _ h => h) (Or.inr ⟨by rfl, rfl⟩) (by assumption) ?_
        try simp only [Act.put, List.setIfInBounds_toArray, List.set_cons_zero, List.set_cons_succ]
        refine wpAnyH_take (i := 8) (oi := ⟨some 62, _, _, _, _, _⟩) (v := undef) rfl (by kernel_rfl) (by kernel_rfl) (by kernel_rfl) (fun _ _ _ h => h) (Or.inr ⟨by rfl, rfl⟩) (by assumption) ?_
        try simp only [Act.put, List.setIfInBounds_toArray, List.set_cons_zero, List.set_cons_succ]
        refine wpAnyH_take (i := 9) (oi := ⟨some 63, _, _, _, _, _⟩) (v := undef) rfl (by kernel_rfl) (by kernel_rfl) (by kernel_rfl) (fun _ _ _ h => h) (Or.inr ⟨by rfl, rfl⟩) (by assumption) ?_
        try simp only [Act.put, List.setIfInBounds_toArray, List.set_cons_zero, List.set_cons_succ]
        refine wpAnyH_take (i := 10) (oi := ⟨some 64, _, _, _, _, _⟩) (v := undef) rfl (by kernel_rfl) (by kernel_rfl) (by kernel_rfl) (fun _ _ _ h => h) (Or.inr ⟨by rfl, rfl⟩) (by assumption) ?_
        try simp only [Act.put, List.setIfInBounds_toArray, List.set_cons_zero, List.set_cons_succ]
        refine wpAnyH_take (i := 11) (oi := ⟨some 65, _, _, _, _, _⟩) (v := undef) rfl (by kernel_rfl) (by kernel_rfl) (by kernel_rfl) (fun _ _ _ h => h) (Or.inr ⟨by rfl, rfl⟩) (by assumption) ?_
        try simp only [Act.put, List.setIfInBounds_toArray, List.set_cons_zero, List.set_cons_succ]
        refine wpAnyH_take (i := 12) (oi := ⟨some 66, _, _, _, _, _⟩) (v := .bool false) rfl (by kernel_rfl) (by kernel_rfl) (by kernel_rfl) (fun _ _ _ h => h) (Or.inl ⟨by rfl, ?_⟩) (by assumption) ?_
        · (intro w hSw; obtain ⟨-, ⟨y0, y1, y2⟩, z0, z1, z2⟩ := hSw; go_simp)
        try simp only [Act.put, List.setIfInBounds_toArray, List.set_cons_zero, List.set_cons_succ]
        refine wpAnyH_done (by kernel_rfl) ?_ _
        go_wp2
        go_meet
        exact ⟨rfl, hb5⟩
      | false =>
        have hsm := HSM.out (by first | rfl | trivial)
        have HBY : Hid (∀ w, Below w4.heap.size w4 w → Calls Try.prog 20 #[.slice A5 lm p5, .slice A6 lm p6] w fun e w' => e = .returned (.bool false) ∧ w = w') := Lib.hid fun w hb => by
          have := kitBytes_any w A5 A6 lm lm p5 p6 _ _ (HR5.out.below hb) (by rw [List.length_take, HLJ.out]; omega) (HR6.out.below hb) (by rw [List.length_take, HLK.out]; omega)
          rwa [hsm] at this
        clear hsm
        go_region_held3 (fun w => Below w4.heap.size w4 w ∧ (w.cell? ⟨W.heap.size + 1, 0, none⟩ = some (.string S1) ∧ w.cell? ⟨W.heap.size + 1, 1, none⟩ = some (.int .i64 D1) ∧ w.cell? ⟨W.heap.size + 1, 2, none⟩ = some (.slice A1 n1 c1)) ∧ w.cell? ⟨W.heap.size + 1 + 1, 0, none⟩ = some (.string S2) ∧ w.cell? ⟨W.heap.size + 1 + 1, 1, none⟩ = some (.int .i64 D2) ∧ w.cell? ⟨W.heap.size + 1 + 1, 2, none⟩ = some (.slice A2 n2 c2))
          (first
            | exact ⟨HBD.out, ⟨j0, j1, j2⟩, k0, k1, k2⟩
            | exact ⟨HBD.out, HKC.out _ HBD.out⟩
            | exact ⟨hb5, HKC.out _ hb5⟩)
          ((first
            | (go_at_call 15; (with_reducible refine (HKY.out _ (HKEYS.out _ (below_drew w4))).mono ?_); rintro e w5 ⟨rfl, hb5'⟩; have hb5 : Below w4.heap.size w4 w5 := below_trans (below_drew w4) hb5')
            | (go_at_call 20; (with_reducible refine (HBY.out _ hb5).mono ?_); rintro e w6 ⟨rfl, rfl⟩)))
        go_wp2
        go_meet
        exact ⟨rfl, hb5⟩
    case rest =>
      obtain ⟨rfl, hb5⟩ := hcut
      have HB5 := Lib.hid (below_trans HB4.out hb5)
      have HR35 := Lib.hid (HR34.out.below hb5)
      clear hb5 j0 j1 j2 k0 k1 k2
      have hne : ¬ (lj : Int) = 0 := by omega
      have hne2 : ((lj : Int) == 0) = false := by simpa using hne
      have hlt : (cut.tmod (lj : Int)).natAbs < lj := by rw [Int.natAbs_tmod]; exact Nat.mod_lt _ (by omega)
      obtain ⟨r, htm⟩ : ∃ r, cut.tmod (lj : Int) = r := ⟨_, rfl⟩
      rw [htm] at hlt
      obtain ⟨m, hm, hr⟩ : ∃ m : Nat, m < lj ∧ ((0 ≤ r ∧ r = (m : Int)) ∨ (r < 0 ∧ wrap64 (r + lj) = (m : Int))) := by
        rcases Int.lt_or_le r 0 with h | h
        · exact ⟨(r + lj).toNat, by omega, .inr ⟨h, by rw [wrap64_in (by omega) (by omega)]; omega⟩⟩
        · exact ⟨r.toNat, by omega, .inl ⟨h, by omega⟩⟩
      obtain ⟨hno1, hno2⟩ := HCU.out m hm
      obtain ⟨A7, p7, hs7, hr7⟩ := run_rd_front HR35.out m (by omega)
      have HR7 := Lib.hid hr7
      have htl : (KJ.take m).length = m := by rw [List.length_take, HLJ.out]; omega
      have HREAD : Hid (∀ w, Below wc.heap.size wc w → Calls Try.prog 10 #[.agg #[.int .i64 cg, .int .i64 cso, .int .i64 ck, .int .i64 csz, .int .i64 csl, .int .i64 co, .int .i64 cga, .int .i64 cla, .int .i64 cea, .bool cdi], .slice A7 m p7] w fun e w' => e = .returned (.tuple #[.agg #[.string ⟨#[]⟩, .int .i64 0, .slice none 0 0], .int .i64 0, .int .i64 290]) ∧ Below w.heap.size w w') := Lib.hid fun w hb => by
        have := HRE.out A7 m p7 (KJ.take m) w (HR7.out.below hb) htl (by omega)
        rw [hno1] at this
        exact this.mono fun e w' h => ⟨h.2, h.1⟩
      have HSKIP : Hid (∀ w, Below wc.heap.size wc w → Calls Try.prog 11 #[.slice A7 m p7] w fun e w' => e = .returned (.tuple #[.string ⟨#[]⟩, .int .i64 0, .int .i64 290]) ∧ Below w.heap.size w w') := Lib.hid fun w hb => by
        have := Skip_any A7 m p7 (KJ.take m) w (HR7.out.below hb) htl (by omega)
        rw [hno2] at this
        exact this
      clear hr7 htl hno1 hno2
      obtain ⟨xc, -, -⟩ := HC.out _ HB5.out
      have x0 := xc.cell 0
      have x1 := xc.cell 1
      have x2 := xc.cell 2
      have x3 := xc.cell 3
      have x4 := xc.cell 4
      have x5 := xc.cell 5
      have x6 := xc.cell 6
      have x7 := xc.cell 7
      have x8 := xc.cell 8
      have x9 := xc.cell 9
      have HCC : Hid (∀ w, Below wc.heap.size wc w → w.cell? ⟨W.heap.size, 0, none⟩ = some (.int .i64 cg) ∧ w.cell? ⟨W.heap.size, 1, none⟩ = some (.int .i64 cso) ∧ w.cell? ⟨W.heap.size, 2, none⟩ = some (.int .i64 ck) ∧ w.cell? ⟨W.heap.size, 3, none⟩ = some (.int .i64 csz) ∧ w.cell? ⟨W.heap.size, 4, none⟩ = some (.int .i64 csl) ∧ w.cell? ⟨W.heap.size, 5, none⟩ = some (.int .i64 co) ∧ w.cell? ⟨W.heap.size, 6, none⟩ = some (.int .i64 cga) ∧ w.cell? ⟨W.heap.size, 7, none⟩ = some (.int .i64 cla) ∧ w.cell? ⟨W.heap.size, 8, none⟩ = some (.int .i64 cea) ∧ w.cell? ⟨W.heap.size, 9, none⟩ = some (.bool cdi)) := Lib.hid fun w hb => by
        obtain ⟨y, -, -⟩ := HC.out _ (below_trans HB5.out hb)
        exact ⟨y.cell 0, y.cell 1, y.cell 2, y.cell 3, y.cell 4, y.cell 5, y.cell 6, y.cell 7, y.cell 8, y.cell 9⟩
      clear xc
      have HBW := Lib.hid (HB1.out.trans (HB5.out.mono HB1.out.size))
      clear hlt
      have HBD : Hid (Below wc.heap.size wc wc.drew) := Lib.hid (below_drew wc)
      have HBA : Hid (Below wc.heap.size wc (wc.alloc (.cells #[.string ⟨#[]⟩, .int .i64 0, .slice none 0 0] 29)).drew) := Lib.hid (below_alloc wc _).drew
      have hal : wc.drew.heap.size = wc.heap.size := rfl
      have hdr : ∃ d : Bool, decide (r < 0) = d := ⟨_, rfl⟩
      obtain ⟨d, hd⟩ := hdr
      obtain ⟨u, hu⟩ : ∃ u, wrap64 (r + (lj : Int)) = u := ⟨_, rfl⟩
      have hcase : (d = true ∧ u = (m : Int)) ∨ (d = false ∧ r = (m : Int)) := by
        rcases hr with ⟨h1, h2⟩ | ⟨h1, h2⟩
        · exact .inr ⟨by rw [← hd]; simp; omega, h2⟩
        · exact .inl ⟨by rw [← hd]; simp; omega, by rw [← hu]; exact h2⟩
      clear hr
      rcases hcase with ⟨rfl, rfl⟩ | ⟨rfl, rfl⟩
      all_goals go_wp2_with fail
      all_goals go_region_held3 (fun w => Below wc.heap.size wc w ∧ w.cell? ⟨W.heap.size, 0, none⟩ = some (.int .i64 cg) ∧ w.cell? ⟨W.heap.size, 1, none⟩ = some (.int .i64 cso) ∧ w.cell? ⟨W.heap.size, 2, none⟩ = some (.int .i64 ck) ∧ w.cell? ⟨W.heap.size, 3, none⟩ = some (.int .i64 csz) ∧ w.cell? ⟨W.heap.size, 4, none⟩ = some (.int .i64 csl) ∧ w.cell? ⟨W.heap.size, 5, none⟩ = some (.int .i64 co) ∧ w.cell? ⟨W.heap.size, 6, none⟩ = some (.int .i64 cga) ∧ w.cell? ⟨W.heap.size, 7, none⟩ = some (.int .i64 cla) ∧ w.cell? ⟨W.heap.size, 8, none⟩ = some (.int .i64 cea) ∧ w.cell? ⟨W.heap.size, 9, none⟩ = some (.bool cdi))
        (first
          | exact ⟨HBD.out, HCC.out _ HBD.out⟩
          | exact ⟨HBA.out, HCC.out _ HBA.out⟩
          | exact ⟨hb6, HCC.out _ hb6⟩
          | exact ⟨below_trans hb6 (below_alloc _ _), HCC.out _ (below_trans hb6 (below_alloc _ _))⟩
          | exact ⟨((hb6.setCell (p := ⟨wc.heap.size, 0, none⟩) (Nat.le_refl _) _).setCell (p := ⟨wc.heap.size, 1, none⟩) (Nat.le_refl _) _).setCell (p := ⟨wc.heap.size, 2, none⟩) (Nat.le_refl _) _, HCC.out _ (((hb6.setCell (p := ⟨wc.heap.size, 0, none⟩) (Nat.le_refl _) _).setCell (p := ⟨wc.heap.size, 1, none⟩) (Nat.le_refl _) _).setCell (p := ⟨wc.heap.size, 2, none⟩) (Nat.le_refl _) _)⟩)
        ((first
          | (go_at_call 10; (with_reducible refine (HREAD.out _ HBA.out).mono ?_); rintro e w6 ⟨rfl, hb6'⟩; have hb6 : Below wc.heap.size wc w6 := below_trans HBA.out hb6'; have bk6 : Bk w6 wc.heap.size 29 #[.string ⟨#[]⟩, .int .i64 0, .slice none 0 0] := Bk.below (w := (wc.alloc (.cells #[.string ⟨#[]⟩, .int .i64 0, .slice none 0 0] 29)).drew) (Bk.new wc 29 #[.string ⟨#[]⟩, .int .i64 0, .slice none 0 0]) hb6'; have q0 := bk6.cell 0; have q1 := bk6.cell 1; have q2 := bk6.cell 2; have f0 := bk6.frozen 0; have f1 := bk6.frozen 1; have f2 := bk6.frozen 2)
          | (go_at_call 10; (with_reducible refine (HREAD.out _ HBD.out).mono ?_); rintro e w6 ⟨rfl, hb6'⟩; have hb6 : Below wc.heap.size wc w6 := below_trans HBD.out hb6')))
      all_goals
        rename_i hh
        have hbf := hh.1
        clear hh
        have HBF := Lib.hid hbf
        clear hbf
        go_wp2_with (first
          | (go_at_call 11; (with_reducible refine (HSKIP.out _ HBF.out).mono ?_); rintro e w10 ⟨rfl, hb10⟩; have HB10 := Lib.hid hb10; clear hb10)
          | (go_at_call 14; (with_reducible refine (HNU.out _ _).mono ?_); rintro e w ⟨rfl, rfl⟩))
        go_ret
        exact ⟨rfl, HBW.out.trans ((below_trans HBF.out HB10.out).mono HBW.out.size)⟩
  · have hres : Hid (decide (pj + pk > 0) = true) := Lib.hid (by rw [decide_eq_true_eq]; omega)
    have hw : wrap64 (pj + pk) = pj + pk := wrap64_in (by omega) (by omega)
    by_cases hz1 : pj = 0
    · have hz2 : ¬ pk = 0 := fun h => hz ⟨hz1, h⟩
      have e1 : (pj != 0) = false := by simpa using hz1
      have e2 : (pk != 0) = true := by simpa using hz2
      go_wp2_with (first
        | (go_at_call 14; (with_reducible refine (HNU.out _ _).mono ?_); rintro e w ⟨rfl, rfl⟩))
      go_ret
      exact ⟨ret_bool (decide_eq_true (by omega)), HBE.out⟩
    · have e1 : (pj != 0) = true := by simpa using hz1
      go_wp2_with (first
        | (go_at_call 14; (with_reducible refine (HNU.out _ _).mono ?_); rintro e w ⟨rfl, rfl⟩))
      go_ret
      exact ⟨ret_bool (decide_eq_true (by omega)), HBE.out⟩
end Go.Proofs.Ytaechgnjdjijkaa
