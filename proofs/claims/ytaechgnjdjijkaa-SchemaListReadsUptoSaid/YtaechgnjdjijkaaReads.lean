/- SchemaReads: walked. -/
import Derived.Test.YtaechgnjdjijkaaSpoilK
import Derived.Test.YtaechgnjdjijkaaLendB
import Derived.Test.YtaechgnjdjijkaaRefRead
import Derived.Test.YtaechgnjdjijkaaData
namespace Go.Proofs.Ytaechgnjdjijkaa
open Go.RowKit Go.Lib

/-- A key's state with nothing in it. -/
def kn0 : Kn := ⟨⟨#[]⟩, 0, []⟩
noncomputable def rdE (c : Cf) (bs : List UInt8) : Int := if job c then (match rdKey c bs 0 with | none => 290 | some _ => 0) else 4
noncomputable def rdK (c : Cf) (bs : List UInt8) : Kn := if job c then (match rdKey c bs 0 with | none => kn0 | some (k, _) => k) else kn0
noncomputable def rdL (c : Cf) (bs : List UInt8) : Nat := if job c then (match rdKey c bs 0 with | none => 0 | some (_, a) => a) else 0
theorem rdE_zero {c : Cf} {bs : List UInt8} (h : rdE c bs = 0) : job c = true ∧ rdKey c bs 0 = some (rdK c bs, rdL c bs) := by
  unfold rdE at h
  unfold rdK rdL
  cases hj : job c with
  | false => rw [hj] at h; simp at h
  | true =>
    rw [hj] at h
    simp only [if_true] at h ⊢
    cases hk : rdKey c bs 0 with
    | none => rw [hk] at h; simp at h
    | some q => exact ⟨trivial, rfl⟩
/-- What Read answers. -/
def RA (W : World) (z : Int) (k : Kn) (a : Nat) (e : Ending) (w' : World) : Prop := ∃ A cap, e = .returned (.tuple #[.agg #[.string k.key, .int .i64 k.dr, .slice A k.ws.length cap], .int .i64 (a : Int), .int .i64 z]) ∧ Below W.heap.size W w' ∧ w'.ownsRow W.heap.size 93 9 (.slice A k.ws.length cap) k.ws.length (wcells k.ws)
theorem RA.none_ {W w' : World} {z : Int} (hb : Below W.heap.size W w') : RA W z kn0 0 (.returned (.tuple #[.agg #[.string ⟨#[]⟩, .int .i64 0, .slice none 0 0], .int .i64 0, .int .i64 z])) w' := ⟨none, 0, rfl, hb, World.ownsRow_nil _ _ _ _⟩
theorem Read_full (c : Cf) (hf : c.Fit) (A : Option Addr) (m cap : Nat) (bs : List UInt8) (W : World) (hr : Rd W (.slice A m cap) m (bc bs)) (hm : bs.length = m) (hmax : m ≤ 8796093022208) :
    Calls Try.prog 10 #[c.val, .slice A m cap] W (RA W (rdE c bs) (rdK c bs) (rdL c bs)) := by
  unfold rdE rdK rdL
  cases hj : job c with
  | false => exact (Read_job c hf hj (.slice A m cap) rfl W).mono fun e w' ⟨h1, h2⟩ => by subst h1; exact RA.none_ h2
  | true =>
    refine (Read_any c hf hj A m cap bs W hr hm hmax).mono fun e w' ⟨h1, h2⟩ => ?_
    cases hk : rdKey c bs 0 with
    | none => rw [hk] at h2; simp only at h2; subst h2; exact RA.none_ h1
    | some q => obtain ⟨k, a⟩ := q; rw [hk] at h2; simp only at h2; obtain ⟨A2, c2, h3, h4⟩ := h2; exact ⟨A2, c2, h3, h1, h4⟩
theorem refRead_full (c : Cf) (hf : c.Fit) (A : Option Addr) (m cap : Nat) (bs : List UInt8) (W : World) (hr : Rd W (.slice A m cap) m (bc bs)) (hm : bs.length = m) (hmax : m ≤ 8796093022208) :
    Calls Try.prog 12 #[c.val, .slice A m cap] W (RA W (rdE c bs) (rdK c bs) (rdL c bs)) := by
  unfold rdE rdK rdL
  cases hj : job c with
  | false => exact (refRead_job c hf hj (.slice A m cap) W).mono fun e w' ⟨h1, h2⟩ => by subst h1; exact RA.none_ h2
  | true =>
    have h := refRead_row c hf hj A m cap bs W hr hm hmax
    rw [refRd_eq c hj bs (by omega)] at h
    refine h.mono fun e w' ⟨h1, h2⟩ => ?_
    cases hk : rdKey c bs 0 with
    | none => rw [hk] at h2; simp only at h2; subst h2; exact RA.none_ h1
    | some q => obtain ⟨k, a⟩ := q; rw [hk] at h2; simp only at h2; obtain ⟨A2, c2, h3, h4⟩ := h2; exact ⟨A2, c2, h3, h1, h4⟩
theorem skAns_form (r : Option (ByteArray × Nat)) : ∃ (S : ByteArray) (a : Nat) (z : Int), skAns r = .tuple #[.string S, .int .i64 (a : Int), .int .i64 z] := by
  cases r with
  | none => exact ⟨⟨#[]⟩, 0, 290, rfl⟩
  | some q => exact ⟨q.1, q.2, 0, rfl⟩
theorem rk_of {w : World} {k : Kn} {S : ByteArray} {D : Int} {nx : Nat} {A : Option Addr} {cap : Nat} (h1 : k.key = S) (h2 : k.dr = D) (h3 : k.ws.length = nx) (h : Rd w (.slice A nx cap) nx (wcells k.ws)) : Rk w (.agg #[.string S, .int .i64 D, .slice A nx cap]) k := by
  subst h1 h2 h3; exact ⟨A, cap, rfl, h⟩
def Xs (g : Nat) (v : Value) (r : Nat) : Prop := r = g ∨ v.ownBlock = some r
def Xq (g r : Nat) : Prop := r = g
set_option maxRecDepth 100000 in
set_option maxHeartbeats 2000000 in
theorem reads_any (c : Cf) (hf : c.Fit) (A : Option Addr) (n cap : Nat) (bs : List UInt8) (W : World) (hr : Rd W (.slice A n cap) n (bc bs)) (hl : bs.length = n) (hn : n ≤ 1048576) :
    Calls Try.prog 3 #[c.val, .slice A n cap] W fun e w' => e = .returned (.bool true) ∧ Below W.heap.size W w' := by
  have HKN := Lib.hid known_any
  have HNU := Lib.hid num_any
  have HLB : Hid (∀ w, Below W.heap.size W w → Calls Try.prog 9 #[.slice A n cap] w fun e w' => ∃ v, e = .returned v ∧ Below w.heap.size w w' ∧ Lb w' w.heap.size v n bs) := Lib.hid fun w hb => LendBytes_any A n cap bs w (hr.below hb) hl (by omega)
  have HRD : Hid (∀ (A : Option Addr) (cap : Nat) (w : World), Rd w (.slice A n cap) n (bc bs) → Calls Try.prog 10 #[c.val, .slice A n cap] w (RA w (rdE c bs) (rdK c bs) (rdL c bs))) := Lib.hid fun A cap w h => Read_full c hf A n cap bs w h hl (by omega)
  have HRR : Hid (∀ (w : World), Below W.heap.size W w → Calls Try.prog 12 #[c.val, .slice A n cap] w (RA w (rdE c bs) (rdK c bs) (rdL c bs))) := Lib.hid fun w hb => refRead_full c hf A n cap bs w (hr.below hb) hl (by omega)
  have HSK : Hid (∀ (A : Option Addr) (cap : Nat) (w : World), Rd w (.slice A n cap) n (bc bs) → Calls Try.prog 11 #[.slice A n cap] w fun e w' => e = .returned (skAns (skTo bs 0)) ∧ Below w.heap.size w w') := Lib.hid fun A cap w h => Skip_any A n cap bs w h hl (by omega)
  have HRS : Hid (∀ (w : World), Below W.heap.size W w → Calls Try.prog 13 #[.slice A n cap] w fun e w' => e = .returned (skAns (skTo bs 0)) ∧ Below w.heap.size w w') := Lib.hid fun w hb => refSkip_any A n cap bs w (hr.below hb) hl (by omega)
  have HKB : Hid (∀ (w : World) (B : Nat) (mv : Value), Lb w B mv n bs → Below W.heap.size W w → Calls Try.prog 16 #[mv, .slice A n cap] w fun e w' => e = .returned (.bool true) ∧ Below w.heap.size w w') := Lib.hid fun w B mv h hb => KeptBytes_any mv A n cap bs B w h (hr.below hb) hl (by omega)
  have HFR : Hid (rdE c bs = 0 → (rdL c bs ≤ n) ∧ keyBytes (rdK c bs) = bs.take (rdL c bs) ∧ (rdK c bs).Fit ∧ putE c (rdK c bs) = 0 ∧ (rdK c bs).key.size + 90 * (rdK c bs).ws.length + 200 ≤ 140737488355328) := Lib.hid fun h => by
    obtain ⟨hj, hk⟩ := rdE_zero h
    obtain ⟨h1, h2⟩ := rdKey_le hk
    obtain ⟨h3, h4⟩ := rdKey_pos hk
    refine ⟨by omega, rdKey_again hk, h2, by unfold putE; rw [if_pos hj, if_pos (keyB_yes h4)], ?_⟩
    omega
  have HNX : Hid (72 * ((rdK c bs).ws.length + 2) ≤ 140737488355328) := Lib.hid (by
    by_cases h : rdE c bs = 0
    · obtain ⟨hj, hk⟩ := rdE_zero h
      have h1 := (rdKey_le hk).1
      have h3 := (rdKey_pos hk).1
      omega
    · have h2 : rdK c bs = kn0 := by
        unfold rdE at h
        unfold rdK
        cases hj : job c with
        | false => rfl
        | true =>
          rw [hj] at h
          simp only [if_true] at h ⊢
          cases hk : rdKey c bs 0 with
          | none => rfl
          | some q => rw [hk] at h; simp at h
      rw [h2]; decide)
  have HPU : Hid (rdE c bs = 0 → ∀ w kv, Rk w kv (rdK c bs) → Calls Try.prog 19 #[c.val, kv] w (PutAns w 0 (bs.take (rdL c bs)))) := Lib.hid fun h w kv hk => by
    obtain ⟨h1, h2, h3, h4, h5⟩ := HFR.out h
    have := Put_ans c hf (rdK c bs) h3 kv w hk h5
    rwa [h4, h2] at this
  have HRL : Hid (rdE c bs = 0 → rdL c bs ≤ n) := Lib.hid fun h => (HFR.out h).1
  have hcap : n ≤ cap ∧ cap ≤ maxLen := by obtain ⟨_, _, hv, h1, h2, _⟩ := hr; cases hv; exact ⟨h1, h2⟩
  unfold maxLen at hcap
  obtain ⟨hcap1, hcap2⟩ := hcap
  have HR := Lib.hid hr
  have HLL := Lib.hid hl
  obtain ⟨S2, a2, z2, hsk⟩ := skAns_form (skTo bs 0)
  rw [hsk] at HSK HRS
  obtain ⟨z, hz⟩ : ∃ z, rdE c bs = z := ⟨_, rfl⟩
  obtain ⟨a, ha⟩ : ∃ a, rdL c bs = a := ⟨_, rfl⟩
  obtain ⟨K, hK⟩ : ∃ K, rdK c bs = K := ⟨_, rfl⟩
  rw [hz] at HRD HRR HPU HRL
  rw [ha] at HRD HRR HPU HRL
  rw [hK] at HRD HRR HPU HNX
  clear hz ha hK hsk HFR hr hl hf
  have HKY : Hid (∀ w v1 v2, Rk w v1 K → Rk w v2 K → Calls Try.prog 15 #[v1, v2] w fun e w' => e = .returned (.bool true) ∧ Below w.heap.size w w') := Lib.hid fun w v1 v2 h1 h2 => by
    have h := kitKey_any K K v1 v2 w h1 h2
    rwa [kEq_iff.2 rfl] at h
  obtain ⟨S, hS⟩ : ∃ S, K.key = S := ⟨_, rfl⟩
  obtain ⟨D, hD⟩ : ∃ D, K.dr = D := ⟨_, rfl⟩
  obtain ⟨nx, hnx⟩ : ∃ nx, K.ws.length = nx := ⟨_, rfl⟩
  have HRK : Hid (∀ w A cap, Rd w (.slice A nx cap) nx (wcells K.ws) → Rk w (.agg #[.string S, .int .i64 D, .slice A nx cap]) K) := Lib.hid fun w A cap h => rk_of hS hD hnx h
  unfold RA at HRD HRR
  rw [hS, hD, hnx] at HRD HRR
  rw [hnx] at HNX
  have HNW := Lib.hid hnx
  clear hS hD hnx
  obtain ⟨wsc, hwsc⟩ : ∃ wsc, wcells K.ws = wsc := ⟨_, rfl⟩
  rw [hwsc] at HRD HRR HRK
  have HWSC := Lib.hid hwsc
  clear hwsc
  unfold Cf.val at *
  go_enter Try.func3, Try.ntmps3
  go_wp2_with fail
  refine (HLB.out _ (below_alloc W _)).mono ?_
  rintro e w1 ⟨mv, rfl, hb1, hlb⟩
  obtain ⟨gc, hgc⟩ : ∃ gc, W.heap.size = gc := ⟨_, rfl⟩
  have HC1 : Hid (Bk w1 gc 24 #[.int .i64 c.g, .int .i64 c.so, .int .i64 c.k, .int .i64 c.sz, .int .i64 c.sl, .int .i64 c.o, .int .i64 c.ga, .int .i64 c.la, .int .i64 c.ea, .bool c.di]) := Lib.hid (by subst hgc; exact (Bk.new W _ _).below hb1)
  have HBW1 : Hid (Below W.heap.size W w1) := Lib.hid (below_trans (below_alloc W _) hb1)
  have HLB1 := Lib.hid hlb
  have HGC := Lib.hid hgc
  obtain ⟨gb, cb, rfl, hcb1, hcb2, howb⟩ := hlb
  unfold maxLen at hcb2
  have HOWB := Lib.hid (Lb.own howb HLL.out)
  obtain ⟨BB, hBB⟩ : ∃ BB, (W.alloc (.cells #[.int .i64 c.g, .int .i64 c.so, .int .i64 c.k, .int .i64 c.sz, .int .i64 c.sl, .int .i64 c.o, .int .i64 c.ga, .int .i64 c.la, .int .i64 c.ea, .bool c.di] 24)).heap.size = BB := ⟨_, rfl⟩
  rw [hBB] at HOWB HLB1
  have HBBW : Hid (W.heap.size ≤ BB) := Lib.hid (by rw [← hBB]; simp)
  rw [hgc]
  clear hb1 howb hBB hgc HLB
  have c0 : w1.cell? ⟨gc, 0, none⟩ = some (.int .i64 c.g) := HC1.out.cell 0
  have c1 : w1.cell? ⟨gc, 1, none⟩ = some (.int .i64 c.so) := HC1.out.cell 1
  have c2 : w1.cell? ⟨gc, 2, none⟩ = some (.int .i64 c.k) := HC1.out.cell 2
  have c3 : w1.cell? ⟨gc, 3, none⟩ = some (.int .i64 c.sz) := HC1.out.cell 3
  have c4 : w1.cell? ⟨gc, 4, none⟩ = some (.int .i64 c.sl) := HC1.out.cell 4
  have c5 : w1.cell? ⟨gc, 5, none⟩ = some (.int .i64 c.o) := HC1.out.cell 5
  have c6 : w1.cell? ⟨gc, 6, none⟩ = some (.int .i64 c.ga) := HC1.out.cell 6
  have c7 : w1.cell? ⟨gc, 7, none⟩ = some (.int .i64 c.la) := HC1.out.cell 7
  have c8 : w1.cell? ⟨gc, 8, none⟩ = some (.int .i64 c.ea) := HC1.out.cell 8
  have c9 : w1.cell? ⟨gc, 9, none⟩ = some (.bool c.di) := HC1.out.cell 9
  go_wp2_with fail
  refine (HRD.out _ _ _ (Rd.of_owns HOWB.out)).mono ?_
  rintro e w2 ⟨Ax, cx, rfl, hb2, ho2⟩
  have HB2 := Lib.hid hb2
  have HOX := Lib.hid ho2
  clear hb2 ho2 c0 c1 c2 c3 c4 c5 c6 c7 c8 c9
  obtain ⟨g6, hg6⟩ : ∃ g6, w2.heap.size = g6 := ⟨_, rfl⟩
  obtain ⟨v2, hv2⟩ : ∃ v2, w2.alloc (.cells #[.string S, .int .i64 D, .slice Ax nx cx] 29) = v2 := ⟨_, rfl⟩
  have HX2 : Hid (Bk v2 g6 29 #[.string S, .int .i64 D, .slice Ax nx cx]) := Lib.hid (by subst hv2; exact Bk.new' _ _ _ _ hg6)
  have HV2 : Hid (Below w1.heap.size w1 v2) := Lib.hid (by subst hv2; exact below_trans HB2.out (below_alloc _ _))
  have HW2 : Hid (Below w2.heap.size w2 v2) := Lib.hid (by subst hv2; exact below_alloc _ _)
  have c0 : v2.cell? ⟨gc, 0, none⟩ = some (.int .i64 c.g) := (HC1.out.below HV2.out).cell 0
  have c1 : v2.cell? ⟨gc, 1, none⟩ = some (.int .i64 c.so) := (HC1.out.below HV2.out).cell 1
  have c2 : v2.cell? ⟨gc, 2, none⟩ = some (.int .i64 c.k) := (HC1.out.below HV2.out).cell 2
  have c3 : v2.cell? ⟨gc, 3, none⟩ = some (.int .i64 c.sz) := (HC1.out.below HV2.out).cell 3
  have c4 : v2.cell? ⟨gc, 4, none⟩ = some (.int .i64 c.sl) := (HC1.out.below HV2.out).cell 4
  have c5 : v2.cell? ⟨gc, 5, none⟩ = some (.int .i64 c.o) := (HC1.out.below HV2.out).cell 5
  have c6 : v2.cell? ⟨gc, 6, none⟩ = some (.int .i64 c.ga) := (HC1.out.below HV2.out).cell 6
  have c7 : v2.cell? ⟨gc, 7, none⟩ = some (.int .i64 c.la) := (HC1.out.below HV2.out).cell 7
  have c8 : v2.cell? ⟨gc, 8, none⟩ = some (.int .i64 c.ea) := (HC1.out.below HV2.out).cell 8
  have c9 : v2.cell? ⟨gc, 9, none⟩ = some (.bool c.di) := (HC1.out.below HV2.out).cell 9
  go_wp2_with fail
  refine (HRD.out _ _ _ (Rd.of_owns (own_below HOWB.out HV2.out))).mono ?_
  rintro e w3 ⟨Ay, cy, rfl, hb3, ho3⟩
  have HB3 := Lib.hid hb3
  have HOY := Lib.hid ho3
  clear hb3 ho3 c0 c1 c2 c3 c4 c5 c6 c7 c8 c9 hg6 hv2
  obtain ⟨g9, hg9⟩ : ∃ g9, w3.heap.size = g9 := ⟨_, rfl⟩
  obtain ⟨v3, hv3⟩ : ∃ v3, w3.alloc (.cells #[.string S, .int .i64 D, .slice Ay nx cy] 29) = v3 := ⟨_, rfl⟩
  have HY3 : Hid (Bk v3 g9 29 #[.string S, .int .i64 D, .slice Ay nx cy]) := Lib.hid (by subst hv3; exact Bk.new' _ _ _ _ hg9)
  have HV3 : Hid (Below v2.heap.size v2 v3) := Lib.hid (by subst hv3; exact below_trans HB3.out (below_alloc _ _))
  have HW3 : Hid (Below w3.heap.size w3 v3) := Lib.hid (by subst hv3; exact below_alloc _ _)
  go_wp2_with fail
  refine (HSK.out _ _ _ (Rd.of_owns (own_below HOWB.out (below_trans HV2.out HV3.out)))).mono ?_
  rintro e w4 ⟨rfl, hb4⟩
  have HB4 := Lib.hid hb4
  clear hb4 hg9 hv3
  have HT4 : Hid (Below w1.heap.size w1 w4) := Lib.hid (below_trans (below_trans HV2.out HV3.out) HB4.out)
  have c0 : w4.cell? ⟨gc, 0, none⟩ = some (.int .i64 c.g) := (HC1.out.below HT4.out).cell 0
  have c1 : w4.cell? ⟨gc, 1, none⟩ = some (.int .i64 c.so) := (HC1.out.below HT4.out).cell 1
  have c2 : w4.cell? ⟨gc, 2, none⟩ = some (.int .i64 c.k) := (HC1.out.below HT4.out).cell 2
  have c3 : w4.cell? ⟨gc, 3, none⟩ = some (.int .i64 c.sz) := (HC1.out.below HT4.out).cell 3
  have c4 : w4.cell? ⟨gc, 4, none⟩ = some (.int .i64 c.sl) := (HC1.out.below HT4.out).cell 4
  have c5 : w4.cell? ⟨gc, 5, none⟩ = some (.int .i64 c.o) := (HC1.out.below HT4.out).cell 5
  have c6 : w4.cell? ⟨gc, 6, none⟩ = some (.int .i64 c.ga) := (HC1.out.below HT4.out).cell 6
  have c7 : w4.cell? ⟨gc, 7, none⟩ = some (.int .i64 c.la) := (HC1.out.below HT4.out).cell 7
  have c8 : w4.cell? ⟨gc, 8, none⟩ = some (.int .i64 c.ea) := (HC1.out.below HT4.out).cell 8
  have c9 : w4.cell? ⟨gc, 9, none⟩ = some (.bool c.di) := (HC1.out.below HT4.out).cell 9
  go_wp2_with fail
  refine (HRR.out _ (below_trans HBW1.out HT4.out)).mono ?_
  rintro e w5 ⟨Aw, cw, rfl, hb5, ho5⟩
  have HB5 := Lib.hid hb5
  have HOW := Lib.hid ho5
  clear hb5 ho5 c0 c1 c2 c3 c4 c5 c6 c7 c8 c9
  obtain ⟨g15, hg15⟩ : ∃ g15, w5.heap.size = g15 := ⟨_, rfl⟩
  obtain ⟨v5, hv5⟩ : ∃ v5, w5.alloc (.cells #[.string S, .int .i64 D, .slice Aw nx cw] 29) = v5 := ⟨_, rfl⟩
  have HW5K : Hid (Bk v5 g15 29 #[.string S, .int .i64 D, .slice Aw nx cw]) := Lib.hid (by subst hv5; exact Bk.new' _ _ _ _ hg15)
  have HW5 : Hid (Below w5.heap.size w5 v5) := Lib.hid (by subst hv5; exact below_alloc _ _)
  have HV5 : Hid (Below w4.heap.size w4 v5) := Lib.hid (below_trans HB5.out HW5.out)
  go_wp2_with fail
  refine (HRS.out _ (below_trans HBW1.out (below_trans HT4.out HV5.out))).mono ?_
  rintro e w6 ⟨rfl, hb6⟩
  have HB6 := Lib.hid hb6
  clear hb6 hg15 hv5
  have HT6 : Hid (Below w1.heap.size w1 w6) := Lib.hid (below_trans (below_trans HT4.out HV5.out) HB6.out)
  have H36 : Hid (Below v3.heap.size v3 w6) := Lib.hid (below_trans (below_trans HB4.out HV5.out) HB6.out)
  have H26 : Hid (Below v2.heap.size v2 w6) := Lib.hid (below_trans HV3.out H36.out)
  have HALL : Hid (∀ w, Below w6.heap.size w6 w → Bk w gc 24 #[.int .i64 c.g, .int .i64 c.so, .int .i64 c.k, .int .i64 c.sz, .int .i64 c.sl, .int .i64 c.o, .int .i64 c.ga, .int .i64 c.la, .int .i64 c.ea, .bool c.di] ∧ Bk w g6 29 #[.string S, .int .i64 D, .slice Ax nx cx] ∧ Bk w g9 29 #[.string S, .int .i64 D, .slice Ay nx cy] ∧ Bk w g15 29 #[.string S, .int .i64 D, .slice Aw nx cw] ∧ w.ownsRow w1.heap.size 93 9 (.slice Ax nx cx) nx wsc ∧ w.ownsRow v2.heap.size 93 9 (.slice Ay nx cy) nx wsc ∧ w.ownsRow w4.heap.size 93 9 (.slice Aw nx cw) nx wsc ∧ Lb w BB (.slice (some ⟨gb, 0, none⟩) n cb) n bs) := Lib.hid fun w hb =>
    ⟨HC1.out.below (below_trans HT6.out hb), HX2.out.below (below_trans H26.out hb), HY3.out.below (below_trans H36.out hb), HW5K.out.below (below_trans HB6.out hb), own_below HOX.out (below_trans HW2.out (below_trans H26.out hb)), own_below HOY.out (below_trans HW3.out (below_trans H36.out hb)), own_below HOW.out (below_trans HW5.out (below_trans HB6.out hb)), HLB1.out.below (below_trans HT6.out hb)⟩
  have hcx : nx ≤ cx ∧ cx ≤ maxLen := by obtain ⟨_, _, hv, h1, h2⟩ := ownsRow_shape HOX.out; cases hv; exact ⟨h1, h2⟩
  unfold maxLen at hcx
  have HSZ : Hid (g6 < v2.heap.size ∧ v2.heap.size ≤ w4.heap.size ∧ w4.heap.size ≤ w6.heap.size) := Lib.hid ⟨HX2.out.lt, (below_trans HV3.out HB4.out).size, (below_trans HV5.out HB6.out).size⟩
  obtain ⟨q1, q2, q3, q4, q5, q6, q7, q8⟩ := HALL.out w6 (Below.refl _ _)
  have x0 : w6.cell? ⟨g6, 0, none⟩ = some (.string S) := q2.cell 0
  have x1 : w6.cell? ⟨g6, 1, none⟩ = some (.int .i64 D) := q2.cell 1
  have x2 : w6.cell? ⟨g6, 2, none⟩ = some (.slice Ax nx cx) := q2.cell 2
  have k0 : w6.cell? ⟨g15, 0, none⟩ = some (.string S) := q4.cell 0
  have k1 : w6.cell? ⟨g15, 1, none⟩ = some (.int .i64 D) := q4.cell 1
  have k2 : w6.cell? ⟨g15, 2, none⟩ = some (.slice Aw nx cw) := q4.cell 2
  clear q1 q2 q3 q4 q5 q6 q7 q8
  have hS2 : (S2.toList == S2.toList) = true := by simp
  go_wp2_with (first
    | (go_at_call 14; (with_reducible refine (HNU.out _ _).mono ?_); rintro e w ⟨rfl, rfl⟩)
    | (go_at_call 15; (with_reducible refine (HKY.out _ _ _ (HRK.out _ _ _ (Rd.of_owns (HALL.out _ (Below.refl _ _)).2.2.2.2.1)) (HRK.out _ _ _ (Rd.of_owns (HALL.out _ (Below.refl _ _)).2.2.2.2.2.2.1))).mono ?_); rintro e w7 ⟨rfl, hb7⟩; have HB7 := Lib.hid hb7; clear hb7)
    | (go_at_call 16; (with_reducible refine (HKB.out _ _ _ (HALL.out _ HB7.out).2.2.2.2.2.2.2 (below_trans HBW1.out (below_trans HT6.out HB7.out))).mono ?_); rintro e w8 ⟨rfl, hb8⟩; have HB8 := Lib.hid (below_trans HB7.out hb8); have y0 := (HALL.out _ HB8.out).2.1.cell 0; have y1 := (HALL.out _ HB8.out).2.1.cell 1; have y2 := (HALL.out _ HB8.out).2.1.cell 2; clear hb8)
    | fail)
  obtain ⟨q1, q2, q3, q4, q5, q6, q7, q8⟩ := HALL.out w8 HB8.out
  obtain ⟨gk, hgk⟩ : ∃ gk, w8.heap.size = gk := ⟨_, rfl⟩
  obtain ⟨v8, hv8⟩ : ∃ v8, w8.alloc (.cells #[.string S, .int .i64 D, .slice Ax nx cx] 29) = v8 := ⟨_, rfl⟩
  have hvb : Below w8.heap.size w8 v8 := by subst hv8; exact below_alloc _ _
  have hC8 := q1.below hvb
  have hY8 := q3.below hvb
  have hW8 := q4.below hvb
  have hOX8 := own_below q5 hvb
  have hOY8 := own_below q6 hvb
  have hOW8 := own_below q7 hvb
  have hOB8' : w8.ownsRow BB 5 1 (.slice (some ⟨gb, 0, none⟩) n cb) n (bc bs) := by
    obtain ⟨g', c', hv, -, -, h⟩ := q8
    cases hv
    exact Lb.own h HLL.out
  have hOB8 := own_below hOB8' hvb
  have hrow8 : v8.ownsRow 0 29 3 (.slice (some ⟨gk, 0, none⟩) 1 1) 1 [.string S, .int .i64 D, .slice Ax nx cx] := by
    subst hv8; exact own_lit (base := 0) (size := 3) _ _ 1 _ hgk (Nat.zero_le _) (by unfold maxLen; omega) rfl
  have hkw : (⟨K, Ax, cx⟩ : Km).win = .slice Ax nx cx := by show Value.slice Ax K.ws.length cx = _; rw [HNW.out]
  have hb8W : Below W.heap.size W v8 := below_trans HBW1.out (below_trans HT6.out (below_trans HB8.out hvb))
  have hlx : ∀ r, (Value.slice Ax nx cx).ownBlock = some r → W.heap.size ≤ r ∧ r < v2.heap.size := fun r hr => ⟨Nat.le_trans HBW1.out.size (own_lt HOX.out hr).1, Nat.lt_of_lt_of_le (own_lt HOX.out hr).2 HW2.out.size⟩
  have hgkW : W.heap.size ≤ gk := by rw [← hgk]; exact (below_trans HBW1.out (below_trans HT6.out HB8.out)).size
  have h28 : v2.heap.size ≤ gk := by rw [← hgk]; exact (below_trans H26.out HB8.out).size
  have h24 := HSZ.out.2.1
  have hnC : ¬ Xs gk (.slice Ax nx cx) gc := by
    rintro (h | h)
    · have := q1.lt; omega
    · exact own_bk_ne q5 q1 (by decide) h
  have hnY : ¬ Xs gk (.slice Ax nx cx) g9 := by
    rintro (h | h)
    · have := q3.lt; omega
    · exact own_bk_ne q5 q3 (by decide) h
  have hnW : ¬ Xs gk (.slice Ax nx cx) g15 := by
    rintro (h | h)
    · have := q4.lt; omega
    · exact own_bk_ne q5 q4 (by decide) h
  have hnOY : ∀ r, (Value.slice Ay nx cy).ownBlock = some r → ¬ Xs gk (.slice Ax nx cx) r := fun r hr h => by
    have h1 := own_lt q6 hr
    rcases h with h | h
    · omega
    · have := (hlx r h).2; omega
  have hnOW : ∀ r, (Value.slice Aw nx cw).ownBlock = some r → ¬ Xs gk (.slice Ax nx cx) r := fun r hr h => by
    have h1 := own_lt q7 hr
    rcases h with h | h
    · omega
    · have := (hlx r h).2; omega
  have hnOB : ∀ r, (Value.slice (some ⟨gb, 0, none⟩) n cb).ownBlock = some r → ¬ Xs gk (.slice Ax nx cx) r := fun r hr h => by
    rcases h with h | h
    · have h1 := own_lt hOB8' hr; omega
    · rcases own_own_ne hOB8 hOX8 (by decide) with h2 | h2
      · rw [h2] at hr; cases hr
      · exact h2 (by rw [hr, h])
  rw [hv8, hgk]
  refine (spoilKeys_any (Xs gk (.slice Ax nx cx)) 0 _ 1 1 [⟨K, Ax, cx⟩] [.string S, .int .i64 D, .slice Ax nx cx] v8 hrow8 rfl ?_ ?_ ?_ ?_ ?_ (Nat.zero_le _) ?_).mono ?_
  · intro i x h
    cases i with
    | zero => simp only [List.getElem?_cons_zero, Option.some.injEq] at h; subst h; rw [hkw]; rfl
    | succ i => simp at h
  · intro x h
    simp only [List.mem_singleton] at h
    subst h
    refine ⟨wsc, ?_⟩
    rw [hkw]
    show v8.ownsRow 0 93 9 _ K.ws.length wsc
    rw [HNW.out]
    exact own_mono hOX8 (Nat.zero_le _)
  · intro i j x y hij hi hj
    have h1 := (List.getElem?_eq_some_iff.1 hj).1
    simp at h1
    omega
  · intro r hr; cases hr; exact .inl rfl
  · intro x h r hr
    simp only [List.mem_singleton] at h
    subst h
    rw [hkw] at hr
    exact .inr hr
  · intro x h
    simp only [List.mem_singleton] at h
    subst h
    show 72 * (K.ws.length + 2) ≤ _
    rw [HNW.out]
    exact HNX.out
  rintro e w9 ⟨rfl, hon⟩
  have HC9 := Lib.hid (hC8.only hon hnC)
  have HY9 := Lib.hid (hY8.only hon hnY)
  have HW9 := Lib.hid (hW8.only hon hnW)
  have HOY9 := Lib.hid (own_only hOY8 hon hnOY)
  have HOW9 := Lib.hid (own_only hOW8 hon hnOW)
  have HOB9 := Lib.hid (own_only hOB8 hon hnOB)
  have HB9 : Hid (Below W.heap.size W w9) := Lib.hid (hb8W.trans (hon.below (B := W.heap.size) (fun b h => by rcases h with h | h; omega; exact (hlx b h).1) hb8W.size))
  have HGB : Hid (W.heap.size ≤ gb) := Lib.hid (by have := (own_lt hOB8' (g := gb) rfl).1; have := HBBW.out; omega)
  clear q1 q2 q3 q4 q5 q6 q7 q8 hvb hC8 hY8 hW8 hOX8 hOY8 hOW8 hOB8 hOB8' hrow8 hkw hb8W hlx hgkW h28 h24 hnC hnY hnW hnOY hnOW hnOB hon hgk hv8 x0 x1 x2 k0 k1 k2 y0 y1 y2
  go_wp2
  go_loopw [21] (fun q wr => ∃ (i : Nat) (ys : List Value), q = .int .i64 i ∧ i ≤ n ∧ wr.ownsRow BB 5 1 (.slice (some ⟨gb, 0, none⟩) n cb) n ys ∧ Only (Xq gb) w9 wr) (fun q _ => n - (intOf q).toNat)
  case atStart => exact ⟨0, _, rfl, Nat.zero_le _, HOB9.out, Only.refl _ _⟩
  case round =>
    obtain ⟨i, ys, rfl, hi, ho, hon⟩ := hrel
    have HO := Lib.hid ho
    have HON := Lib.hid hon
    by_cases hin : i < n
    · obtain ⟨g', hA, -, hgl, -, -, hcl, hfr⟩ := ownsRow_at ho (by omega)
      cases hA
      obtain ⟨u, hu⟩ := ownsRow_cell ho (j := i) (by omega)
      have z0 := hcl i u hu
      have f0 := hfr i
      have hn2 : decide (i < n) = true := by simpa using hin
      clear ho hon hcl hfr hu
      go_wp2
      go_roundw
      case rel => exact ⟨i + 1, _, by go_num, by omega, ownsRow_set HO.out _, HON.out.cell _ _ rfl⟩
      case measure => simp [intOf]; omega
    · obtain rfl : i = n := by omega
      have hn2 : decide (i < i) = false := by simp
      have hnq : ∀ (g : Nat) (t : TypeId) (cs : Array Value), Bk w9 g t cs → 5 ≠ t → ¬ Xq gb g := fun g t cs hb hne h => by
        unfold Xq at h
        subst h
        exact own_bk_ne HOB9.out hb hne rfl
      have hnw : ∀ (B : Nat) (v : Value) (m : Nat) (xs : List Value), w9.ownsRow B 93 9 v m xs → ∀ r, v.ownBlock = some r → ¬ Xq gb r := fun B v m xs hq r hr h => by
        unfold Xq at h
        subst h
        rcases own_own_ne hq HOB9.out (by decide) with h2 | h2
        · rw [h2] at hr; cases hr
        · exact h2 (by rw [hr]; rfl)
      have HWB : Hid (Below W.heap.size W wr) := Lib.hid (HB9.out.trans (hon.below (B := W.heap.size) (fun b h => by unfold Xq at h; subst h; exact HGB.out) HB9.out.size))
      have HYR := Lib.hid (HY9.out.only hon (hnq _ _ _ HY9.out (by decide)))
      have HWR := Lib.hid (HW9.out.only hon (hnq _ _ _ HW9.out (by decide)))
      have HCR := Lib.hid (HC9.out.only hon (hnq _ _ _ HC9.out (by decide)))
      have HOYR := Lib.hid (own_only HOY9.out hon (hnw _ _ _ _ HOY9.out))
      have HOWR := Lib.hid (own_only HOW9.out hon (hnw _ _ _ _ HOW9.out))
      have xc := HCR.out
      have xy := HYR.out
      have xw := HWR.out
      have y0 : wr.cell? ⟨g9, 0, none⟩ = some (.string S) := xy.cell 0
      have y1 : wr.cell? ⟨g9, 1, none⟩ = some (.int .i64 D) := xy.cell 1
      have y2 : wr.cell? ⟨g9, 2, none⟩ = some (.slice Ay nx cy) := xy.cell 2
      have k0 : wr.cell? ⟨g15, 0, none⟩ = some (.string S) := xw.cell 0
      have k1 : wr.cell? ⟨g15, 1, none⟩ = some (.int .i64 D) := xw.cell 1
      have k2 : wr.cell? ⟨g15, 2, none⟩ = some (.slice Aw nx cw) := xw.cell 2
      clear ho hon hnq hnw xc xy xw hin hi
      have HKQ := Lib.hid (HKY.out wr _ _ (HRK.out _ _ _ (Rd.of_owns HOYR.out)) (HRK.out _ _ _ (Rd.of_owns HOWR.out)))
      by_cases hz : z = 0
      · subst hz
        have HPQ := Lib.hid (HPU.out rfl)
        have ha := HRL.out rfl
        clear HPU HRL
        go_wp2_with (first
          | (go_at_call 15; (with_reducible refine HKQ.out.mono ?_); rintro e w10 ⟨rfl, hb10⟩; clear y0 y1 y2 k0 k1 k2; have HB10 := Lib.hid hb10; have xc := HCR.out.below hb10; have xy := HYR.out.below hb10; have c0 : w10.cell? ⟨gc, 0, none⟩ = some (.int .i64 c.g) := xc.cell 0; have c1 : w10.cell? ⟨gc, 1, none⟩ = some (.int .i64 c.so) := xc.cell 1; have c2 : w10.cell? ⟨gc, 2, none⟩ = some (.int .i64 c.k) := xc.cell 2; have c3 : w10.cell? ⟨gc, 3, none⟩ = some (.int .i64 c.sz) := xc.cell 3; have c4 : w10.cell? ⟨gc, 4, none⟩ = some (.int .i64 c.sl) := xc.cell 4; have c5 : w10.cell? ⟨gc, 5, none⟩ = some (.int .i64 c.o) := xc.cell 5; have c6 : w10.cell? ⟨gc, 6, none⟩ = some (.int .i64 c.ga) := xc.cell 6; have c7 : w10.cell? ⟨gc, 7, none⟩ = some (.int .i64 c.la) := xc.cell 7; have c8 : w10.cell? ⟨gc, 8, none⟩ = some (.int .i64 c.ea) := xc.cell 8; have c9 : w10.cell? ⟨gc, 9, none⟩ = some (.bool c.di) := xc.cell 9; have y0 : w10.cell? ⟨g9, 0, none⟩ = some (.string S) := xy.cell 0; have y1 : w10.cell? ⟨g9, 1, none⟩ = some (.int .i64 D) := xy.cell 1; have y2 : w10.cell? ⟨g9, 2, none⟩ = some (.slice Ay nx cy) := xy.cell 2; clear hb10 xc xy)
          | fail)
        refine (HPQ.out w10 _ (HRK.out _ _ _ ((Rd.of_owns HOYR.out).below HB10.out))).mono ?_
        rintro e w11 ⟨Ap, np, cp, rfl, hb11, ho11, hl11⟩
        clear c0 c1 c2 c3 c4 c5 c6 c7 c8 c9 y0 y1 y2
        simp only [if_true] at ho11 hl11
        have HB11 := Lib.hid (below_trans HB10.out hb11)
        have HWB11 : Hid (Below W.heap.size W w11) := Lib.hid (below_trans HWB.out HB11.out)
        obtain ⟨As, cs, hruns, hrds⟩ := run_rd_front (HR.out.below HWB11.out) a ha
        have hna : np = a := by rw [← hl11, List.length_take, HLL.out]; omega
        subst hna
        have hcp : np ≤ cp ∧ cp ≤ maxLen := by obtain ⟨_, _, hv, h1, h2⟩ := ownsRow_shape ho11; cases hv; exact ⟨h1, h2⟩
        have HBY : Hid (Calls Try.prog 20 #[.slice Ap np cp, .slice As np cs] w11 fun e w' => e = .returned (.bool true) ∧ w11 = w') := Lib.hid (by
          have h := kitBytes_any w11 Ap As np np cp cs _ _ (Rd.of_owns ho11) hl11 hrds hl11
          rwa [show (bs.take np == bs.take np) = true by simp] at h)
        clear hb11 ho11 hl11 hrds hcp
        go_wp2_with (first
          | (go_at_call 14; (with_reducible refine (HNU.out _ _).mono ?_); rintro e w ⟨rfl, rfl⟩)
          | (go_at_call 20; (with_reducible refine HBY.out.mono ?_); rintro e w ⟨rfl, rfl⟩)
          | (go_at_call 18; (with_reducible refine (HKN.out _).mono ?_); rintro e w12 ⟨rfl, hb12⟩; have HB12 := Lib.hid hb12; clear hb12)
          | fail)
        go_ret
        exact ⟨rfl, below_trans HWB11.out HB12.out⟩
      · have hnz : (z != 0) = true := by simpa using hz
        clear HPU HRL hz
        go_wp2_with (first
          | (go_at_call 15; (with_reducible refine HKQ.out.mono ?_); rintro e w10 ⟨rfl, hb10⟩; have HB10 := Lib.hid hb10; clear hb10)
          | (go_at_call 18; (with_reducible refine (HKN.out _).mono ?_); rintro e w11 ⟨rfl, hb11⟩; have HB11 := Lib.hid hb11; clear hb11)
          | fail)
        go_ret
        exact ⟨rfl, below_trans HWB.out (below_trans HB10.out HB11.out)⟩
end Go.Proofs.Ytaechgnjdjijkaa
