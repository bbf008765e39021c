/- SchemaLists: walked. -/
import Derived.Test.YtaechgnjdjijkaaLendO
import Derived.Test.YtaechgnjdjijkaaRefPAll
import Derived.Test.YtaechgnjdjijkaaListPl
namespace Go.Proofs.Ytaechgnjdjijkaa
open Go.RowKit Go.Lib

theorem allAns_put {W : World} {c : Cf} {l : List Kn} (hj : job c = true) {e : Ending} {w' : World} (h : PutAllAns W (upB (c.k == 3) none l) (allB l) e w') : PutAns W (allE c l) (allB l) e w' := by
  obtain ⟨hb, h⟩ := h
  unfold allE
  rw [if_pos hj]
  cases hu : upB (c.k == 3) none l with
  | false => rw [hu] at h; exact ⟨none, 0, 0, h, hb, World.ownsRow_nil _ _ _ _, rfl⟩
  | true => rw [hu] at h; obtain ⟨A, cap, he, ho⟩ := h; exact ⟨A, _, cap, he, hb, ho, rfl⟩
theorem PutAll_full (c : Cf) (hf : c.Fit) (A : Option Addr) (n cap : Nat) (L : List Km) (W : World) (hr : Rks W (.slice A n cap) n L) (hfit : ∀ x ∈ L, x.k.Fit) (hroom : kroom (L.map Km.k) + 200 ≤ 140737488355328) :
    Calls Try.prog 27 #[c.val, .slice A n cap] W (PutAns W (allE c (L.map Km.k)) (allB (L.map Km.k))) := by
  cases hj : job c with
  | false =>
    refine (PutAll_job c hf hj A n cap W).mono fun e w' ⟨h1, h2⟩ => ?_
    unfold allE
    rw [hj]
    exact ⟨none, 0, 0, h1, h2, World.ownsRow_nil _ _ _ _, rfl⟩
  | true => exact (PutAll_row c hf hj A n cap L W hr hfit hroom).mono fun e w' h => allAns_put hj h
theorem refPutAll_full (c : Cf) (hf : c.Fit) (A : Option Addr) (n cap : Nat) (L : List Km) (W : World) (hr : Rks W (.slice A n cap) n L) (hfit : ∀ x ∈ L, x.k.Fit) (hroom : kroom (L.map Km.k) + 200 ≤ 140737488355328) :
    Calls Try.prog 28 #[c.val, .slice A n cap] W (PutAns W (allE c (L.map Km.k)) (allB (L.map Km.k))) := by
  cases hj : job c with
  | false =>
    refine (refPutAll_job c hf hj A n cap W).mono fun e w' ⟨h1, h2⟩ => ?_
    unfold allE
    rw [hj]
    exact ⟨none, 0, 0, h1, h2, World.ownsRow_nil _ _ _ _, rfl⟩
  | true => exact (refPutAll_row c hf hj A n cap L W hr hfit hroom).mono fun e w' h => allAns_put hj h
theorem allE_ok {c : Cf} {l : List Kn} (h : allE c l = 0) : job c = true ∧ upB (c.k == 3) none l = true := by
  unfold allE at h
  cases hj : job c with
  | false => rw [hj] at h; simp at h
  | true =>
    rw [hj] at h
    simp only [if_true] at h
    cases hu : upB (c.k == 3) none l with
    | false => rw [hu] at h; simp at h
    | true => exact ⟨rfl, rfl⟩
theorem allB_len {ses : Bool} : ∀ (l : List Kn) (o : Option Kn), upB ses o l = true → (∀ k ∈ l, k.Fit ∧ k.ws.length < 18446744073709551616) → (allB l).length ≤ kroom l
  | [], _, _, _ => Nat.le_refl _
  | k :: l, o, h, hf => by
    obtain ⟨h1, -, h3⟩ := upB_cons.1 h
    have ih := allB_len l _ h3 (fun k' hk => hf k' (List.mem_cons_of_mem _ hk))
    obtain ⟨f1, f2⟩ := hf k (List.mem_cons_self ..)
    have := keyBytes_len (keyB_iff.1 h1) f1 f2
    show (keyBytes k ++ allB l).length ≤ k.key.size + 90 * k.ws.length + 40 + kroom l
    rw [List.length_append]
    omega
set_option maxRecDepth 100000 in
set_option maxHeartbeats 2000000 in
theorem lists_any (c : Cf) (hf : c.Fit) (A : Option Addr) (n cap : Nat) (L : List Km) (W : World) (hr : Rks W (.slice A n cap) n L) (hfit : ∀ x ∈ L, x.k.Fit) (hn : 48 * (n + 1) ≤ 140737488355328) (hw : ∀ x ∈ L, 72 * x.k.ws.length + 1000 ≤ 140737488355328) (hroom : kroom (L.map Km.k) + 2000 ≤ 8796093022208) :
    Calls Try.prog 6 #[c.val, .slice A n cap] W fun e w' => e = .returned (.bool true) ∧ Below W.heap.size W w' := by
  have HKN := Lib.hid known_any
  have HNU := Lib.hid num_any
  have HLT : Hid (∀ w, Below W.heap.size W w → Calls Try.prog 26 #[.slice A n cap] w fun e w' => ∃ A' cap' M, e = .returned (.slice A' n cap') ∧ Below w.heap.size w w' ∧ M.map Km.k = L.map Km.k ∧ Lks w' w.heap.size A' n cap' M) := Lib.hid fun w hb => lent_any A n cap L w (hr.below hb) hn hw
  have hkf : ∀ k ∈ L.map Km.k, k.Fit := fun k hk => by obtain ⟨x, hx, rfl⟩ := List.mem_map.1 hk; exact hfit x hx
  have hkw : ∀ k ∈ L.map Km.k, k.Fit ∧ k.ws.length < 18446744073709551616 := fun k hk => by obtain ⟨x, hx, rfl⟩ := List.mem_map.1 hk; exact ⟨hfit x hx, by have := hw x hx; omega⟩
  have HPA : Hid (∀ w A' cap' M, M.map Km.k = L.map Km.k → Rks w (.slice A' n cap') n M → Calls Try.prog 27 #[c.val, .slice A' n cap'] w (PutAns w (allE c (L.map Km.k)) (allB (L.map Km.k)))) := Lib.hid fun w A' cap' M hM hR => by
    have := PutAll_full c hf A' n cap' M w hR (fun x hx => hkf x.k (by rw [← hM]; exact List.mem_map_of_mem hx)) (by rw [hM]; omega)
    rwa [hM] at this
  have HRA : Hid (∀ w, Below W.heap.size W w → Calls Try.prog 28 #[c.val, .slice A n cap] w (PutAns w (allE c (L.map Km.k)) (allB (L.map Km.k)))) := Lib.hid fun w hb => refPutAll_full c hf A n cap L w (hr.below hb) hfit (by omega)
  have HLF : Hid (∀ w B A' cap' M, M.map Km.k = L.map Km.k → Lks w B A' n cap' M → Below W.heap.size W w → Calls Try.prog 29 #[.slice A' n cap', .slice A n cap] w fun e w' => e = .returned (.bool true) ∧ Below w.heap.size w w') := Lib.hid fun w B A' cap' M hM hL hb => left_any A' A cap' cap n B M L w hL (hr.below hb) hM
  have HLEN : Hid (allE c (L.map Km.k) = 0 → (allB (L.map Km.k)).length ≤ 8796093022208) := Lib.hid fun h => by have := allB_len _ _ (allE_ok h).2 hkw; omega
  have HRD : Hid (allE c (L.map Km.k) = 0 → ∀ (A2 : Option Addr) (m cap2 : Nat) (w : World), Rd w (.slice A2 m cap2) m (bc (allB (L.map Km.k))) → (allB (L.map Km.k)).length = m → Calls Try.prog 30 #[c.val, .slice A2 m cap2] w fun e w' => Below w.heap.size w w' ∧ ∃ (A : Option Addr) (k cap : Nat) (m : List Km), e = .returned (.tuple #[.slice A k cap, .int .i64 0]) ∧ m.map Km.k = L.map Km.k ∧ Rks w' (.slice A k cap) k m) := Lib.hid fun h A2 m cap2 w h1 h2 => by
    obtain ⟨hj, hu⟩ := allE_ok h
    have hlen := HLEN.out h
    refine (ReadAll_any c hf hj A2 m cap2 _ w h1 h2 (by omega)).mono fun e w' ⟨g1, g2⟩ => ?_
    rw [rdAll_back c hj (L.map Km.k) [] m hkw hu (by omega)] at g2
    obtain ⟨A3, c3, M, g3, g4, g5, -⟩ := g2
    exact ⟨g1, A3, M.length, c3, M, g3, g4, g5.rks⟩
  have HKY : Hid (∀ w (A1 : Option Addr) (n1 c1 : Nat) (M1 : List Km), M1.map Km.k = L.map Km.k → Rks w (.slice A1 n1 c1) n1 M1 → Below W.heap.size W w → Calls Try.prog 31 #[.slice A1 n1 c1, .slice A n cap] w fun e w' => e = .returned (.bool true) ∧ Below w.heap.size w w') := Lib.hid fun w A1 n1 c1 M1 h1 h2 hb => by
    have h := keys_any A1 A c1 cap n1 n M1 L w h2 (hr.below hb)
    rwa [h1, decide_eq_true rfl] at h
  have hcap : n ≤ cap ∧ cap ≤ maxLen := by obtain ⟨_, _, hv, h1, h2, _⟩ := hr.rd; cases hv; exact ⟨h1, h2⟩
  unfold maxLen at hcap
  obtain ⟨hcap1, hcap2⟩ := hcap
  obtain ⟨LK, hLK⟩ : ∃ LK, L.map Km.k = LK := ⟨_, rfl⟩
  obtain ⟨z, hz⟩ : ∃ z, allE c LK = z := ⟨_, rfl⟩
  obtain ⟨KB, hKB⟩ : ∃ KB, allB LK = KB := ⟨_, rfl⟩
  rw [hLK] at HPA HRA HRD HLEN HLF HKY HLT
  rw [hz, hKB] at HPA HRA HRD HLEN
  clear hLK hz hKB hkf hkw hf hr hfit hn hw hroom
  unfold PutAns at HPA HRA
  obtain ⟨X, hX⟩ : ∃ X, (if z = 0 then KB else []) = X := ⟨_, rfl⟩
  have HX := Lib.hid hX
  rw [hX] at HPA HRA
  clear hX
  have HXL : Hid (X.length ≤ 8796093022208) := Lib.hid (by
    rw [← HX.out]
    by_cases hz : z = 0
    · rw [if_pos hz]; exact HLEN.out hz
    · rw [if_neg hz]; simp)
  unfold Cf.val at *
  go_enter Try.func6, Try.ntmps6
  go_wp2_with fail
  refine (HLT.out _ (below_alloc W _)).mono ?_
  rintro e w1 ⟨Am, cm, M, rfl, hb1, hM, hlk⟩
  obtain ⟨gc, hgc⟩ : ∃ gc, W.heap.size = gc := ⟨_, rfl⟩
  have HC1 : Hid (Bk w1 gc 24 #[.int .i64 c.g, .int .i64 c.so, .int .i64 c.k, .int .i64 c.sz, .int .i64 c.sl, .int .i64 c.o, .int .i64 c.ga, .int .i64 c.la, .int .i64 c.ea, .bool c.di]) := Lib.hid (by subst hgc; exact (Bk.new W _ _).below hb1)
  have HBW1 : Hid (Below W.heap.size W w1) := Lib.hid (below_trans (below_alloc W _) hb1)
  have HM := Lib.hid hM
  obtain ⟨BB, hBB⟩ : ∃ BB, (W.alloc (.cells #[.int .i64 c.g, .int .i64 c.so, .int .i64 c.k, .int .i64 c.sz, .int .i64 c.sl, .int .i64 c.o, .int .i64 c.ga, .int .i64 c.la, .int .i64 c.ea, .bool c.di] 24)).heap.size = BB := ⟨_, rfl⟩
  rw [hBB] at hlk
  have HLK := Lib.hid hlk
  have hcm : n + 1 ≤ cm ∧ cm ≤ maxLen := by obtain ⟨_, _, hv, h1, h2⟩ := ownsRow_shape hlk.row; cases hv; exact ⟨h1, h2⟩
  unfold maxLen at hcm
  rw [hgc]
  clear hb1 hM hlk hBB hgc HLT
  have c0 : w1.cell? ⟨gc, 0, none⟩ = some (.int .i64 c.g) := HC1.out.cell 0
  have c1 : w1.cell? ⟨gc, 1, none⟩ = some (.int .i64 c.so) := HC1.out.cell 1
  have c2 : w1.cell? ⟨gc, 2, none⟩ = some (.int .i64 c.k) := HC1.out.cell 2
  have c3 : w1.cell? ⟨gc, 3, none⟩ = some (.int .i64 c.sz) := HC1.out.cell 3
  have c4 : w1.cell? ⟨gc, 4, none⟩ = some (.int .i64 c.sl) := HC1.out.cell 4
  have c5 : w1.cell? ⟨gc, 5, none⟩ = some (.int .i64 c.o) := HC1.out.cell 5
  have c6 : w1.cell? ⟨gc, 6, none⟩ = some (.int .i64 c.ga) := HC1.out.cell 6
  have c7 : w1.cell? ⟨gc, 7, none⟩ = some (.int .i64 c.la) := HC1.out.cell 7
  have c8 : w1.cell? ⟨gc, 8, none⟩ = some (.int .i64 c.ea) := HC1.out.cell 8
  have c9 : w1.cell? ⟨gc, 9, none⟩ = some (.bool c.di) := HC1.out.cell 9
  go_wp2_with fail
  refine (HPA.out _ _ _ _ HM.out HLK.out.rks).mono ?_
  rintro e w2 ⟨Aa, na, ca, rfl, hb2, ho2, hl2⟩
  have HB2 := Lib.hid hb2
  have HOA := Lib.hid ho2
  have HLA := Lib.hid hl2
  have hca : na ≤ ca ∧ ca ≤ maxLen := by obtain ⟨_, _, hv, h1, h2⟩ := ownsRow_shape ho2; cases hv; exact ⟨h1, h2⟩
  clear hb2 ho2 hl2 c0 c1 c2 c3 c4 c5 c6 c7 c8 c9
  have c0 : w2.cell? ⟨gc, 0, none⟩ = some (.int .i64 c.g) := (HC1.out.below HB2.out).cell 0
  have c1 : w2.cell? ⟨gc, 1, none⟩ = some (.int .i64 c.so) := (HC1.out.below HB2.out).cell 1
  have c2 : w2.cell? ⟨gc, 2, none⟩ = some (.int .i64 c.k) := (HC1.out.below HB2.out).cell 2
  have c3 : w2.cell? ⟨gc, 3, none⟩ = some (.int .i64 c.sz) := (HC1.out.below HB2.out).cell 3
  have c4 : w2.cell? ⟨gc, 4, none⟩ = some (.int .i64 c.sl) := (HC1.out.below HB2.out).cell 4
  have c5 : w2.cell? ⟨gc, 5, none⟩ = some (.int .i64 c.o) := (HC1.out.below HB2.out).cell 5
  have c6 : w2.cell? ⟨gc, 6, none⟩ = some (.int .i64 c.ga) := (HC1.out.below HB2.out).cell 6
  have c7 : w2.cell? ⟨gc, 7, none⟩ = some (.int .i64 c.la) := (HC1.out.below HB2.out).cell 7
  have c8 : w2.cell? ⟨gc, 8, none⟩ = some (.int .i64 c.ea) := (HC1.out.below HB2.out).cell 8
  have c9 : w2.cell? ⟨gc, 9, none⟩ = some (.bool c.di) := (HC1.out.below HB2.out).cell 9
  go_wp2_with fail
  refine (HPA.out _ _ _ _ HM.out (HLK.out.below HB2.out).rks).mono ?_
  rintro e w3 ⟨Ab, nb, cb, rfl, hb3, ho3, hl3⟩
  have HB23 := Lib.hid hb3
  have HB3 := Lib.hid (below_trans HB2.out hb3)
  have HOB := Lib.hid ho3
  have HLB := Lib.hid hl3
  have hcb : nb ≤ cb ∧ cb ≤ maxLen := by obtain ⟨_, _, hv, h1, h2⟩ := ownsRow_shape ho3; cases hv; exact ⟨h1, h2⟩
  clear hb3 ho3 hl3 c0 c1 c2 c3 c4 c5 c6 c7 c8 c9
  have c0 : w3.cell? ⟨gc, 0, none⟩ = some (.int .i64 c.g) := (HC1.out.below HB3.out).cell 0
  have c1 : w3.cell? ⟨gc, 1, none⟩ = some (.int .i64 c.so) := (HC1.out.below HB3.out).cell 1
  have c2 : w3.cell? ⟨gc, 2, none⟩ = some (.int .i64 c.k) := (HC1.out.below HB3.out).cell 2
  have c3 : w3.cell? ⟨gc, 3, none⟩ = some (.int .i64 c.sz) := (HC1.out.below HB3.out).cell 3
  have c4 : w3.cell? ⟨gc, 4, none⟩ = some (.int .i64 c.sl) := (HC1.out.below HB3.out).cell 4
  have c5 : w3.cell? ⟨gc, 5, none⟩ = some (.int .i64 c.o) := (HC1.out.below HB3.out).cell 5
  have c6 : w3.cell? ⟨gc, 6, none⟩ = some (.int .i64 c.ga) := (HC1.out.below HB3.out).cell 6
  have c7 : w3.cell? ⟨gc, 7, none⟩ = some (.int .i64 c.la) := (HC1.out.below HB3.out).cell 7
  have c8 : w3.cell? ⟨gc, 8, none⟩ = some (.int .i64 c.ea) := (HC1.out.below HB3.out).cell 8
  have c9 : w3.cell? ⟨gc, 9, none⟩ = some (.bool c.di) := (HC1.out.below HB3.out).cell 9
  go_wp2_with fail
  refine (HRA.out _ (below_trans HBW1.out HB3.out)).mono ?_
  rintro e w4 ⟨Aw, nw, cw, rfl, hb4, ho4, hl4⟩
  have HB34 := Lib.hid hb4
  have HB4 := Lib.hid (below_trans HB3.out hb4)
  have HOW := Lib.hid ho4
  have HLW := Lib.hid hl4
  have hcw : nw ≤ cw ∧ cw ≤ maxLen := by obtain ⟨_, _, hv, h1, h2⟩ := ownsRow_shape ho4; cases hv; exact ⟨h1, h2⟩
  clear hb4 ho4 hl4 c0 c1 c2 c3 c4 c5 c6 c7 c8 c9
  have e2 : na = nb := HLA.out.symm.trans HLB.out
  subst e2
  have e3 : na = nw := HLA.out.symm.trans HLW.out
  subst e3
  clear HLB HLW
  obtain ⟨hca1, hca2⟩ := hca
  obtain ⟨hcb1, hcb2⟩ := hcb
  obtain ⟨hcw1, hcw2⟩ := hcw
  unfold maxLen at hca2 hcb2 hcw2
  have hnax : na ≤ 8796093022208 := by rw [← HLA.out]; exact HXL.out
  have HOA4 := Lib.hid (own_below HOA.out (below_trans HB23.out HB34.out))
  have HOB4 := Lib.hid (own_below HOB.out HB34.out)
  have HBA : Hid (Calls Try.prog 20 #[.slice Aa na ca, .slice Aw na cw] w4 fun e w' => e = .returned (.bool true) ∧ w4 = w') := Lib.hid (by
    have h := kitBytes_any w4 Aa Aw na na ca cw X X (Rd.of_owns HOA4.out) HLA.out (Rd.of_owns HOW.out) HLA.out
    rwa [show (X == X) = true by simp] at h)
  have HLFT := Lib.hid (HLF.out w4 BB Am cm M HM.out (HLK.out.below HB4.out) (below_trans HBW1.out HB4.out))
  go_wp2_with (first
    | (go_at_call 14; (with_reducible refine (HNU.out _ _).mono ?_); rintro e w ⟨rfl, rfl⟩)
    | (go_at_call 20; (with_reducible refine HBA.out.mono ?_); rintro e w ⟨rfl, rfl⟩)
    | (go_at_call 29; (with_reducible refine HLFT.out.mono ?_); rintro e w6 ⟨rfl, hb6⟩; have HB46 := Lib.hid hb6; clear hb6)
    | fail)
  have HB6 := Lib.hid (below_trans HB4.out HB46.out)
  have HOA6 := Lib.hid (own_below HOA4.out HB46.out)
  have HOB6 := Lib.hid (own_below HOB4.out HB46.out)
  have HOW6 := Lib.hid (own_below HOW.out HB46.out)
  refine (spoil_any w1.heap.size Aa na ca _ w6 HOA6.out HB6.out.size (by omega)).mono ?_
  rintro e w7 ⟨rfl, hg7⟩
  have HB7 : Hid (Below w1.heap.size w1 w7) := Lib.hid (HB6.out.grown hg7 HB6.out.size (fun r e => (own_lt HOA6.out e).1))
  have HOB7 : Hid (w7.ownsRow w2.heap.size 5 1 (.slice Ab na cb) na (bc X)) := Lib.hid (own_grew HOB6.out hg7 (own_far HOA.out HOB6.out (Nat.le_refl _)))
  have HOW7 : Hid (w7.ownsRow w3.heap.size 5 1 (.slice Aw na cw) na (bc X)) := Lib.hid (own_grew HOW6.out hg7 (own_far HOA.out HOW6.out HB23.out.size))
  have HBW : Hid (Calls Try.prog 20 #[.slice Ab na cb, .slice Aw na cw] w7 fun e w' => e = .returned (.bool true) ∧ w7 = w') := Lib.hid (by
    have h := kitBytes_any w7 Ab Aw na na cb cw X X (Rd.of_owns HOB7.out) HLA.out (Rd.of_owns HOW7.out) HLA.out
    rwa [show (X == X) = true by simp] at h)
  have HWB7 : Hid (Below W.heap.size W w7) := Lib.hid (below_trans HBW1.out HB7.out)
  have xc := HC1.out.below HB7.out
  clear hg7
  by_cases hz : z = 0
  · subst hz
    have hXK : X = KB := by rw [← HX.out, if_pos rfl]
    subst hXK
    have HRQ := Lib.hid (HRD.out rfl Ab na cb w7 (Rd.of_owns HOB7.out) HLA.out)
    clear HRD HLEN HX
    have c0 : w7.cell? ⟨gc, 0, none⟩ = some (.int .i64 c.g) := xc.cell 0
    have c1 : w7.cell? ⟨gc, 1, none⟩ = some (.int .i64 c.so) := xc.cell 1
    have c2 : w7.cell? ⟨gc, 2, none⟩ = some (.int .i64 c.k) := xc.cell 2
    have c3 : w7.cell? ⟨gc, 3, none⟩ = some (.int .i64 c.sz) := xc.cell 3
    have c4 : w7.cell? ⟨gc, 4, none⟩ = some (.int .i64 c.sl) := xc.cell 4
    have c5 : w7.cell? ⟨gc, 5, none⟩ = some (.int .i64 c.o) := xc.cell 5
    have c6 : w7.cell? ⟨gc, 6, none⟩ = some (.int .i64 c.ga) := xc.cell 6
    have c7 : w7.cell? ⟨gc, 7, none⟩ = some (.int .i64 c.la) := xc.cell 7
    have c8 : w7.cell? ⟨gc, 8, none⟩ = some (.int .i64 c.ea) := xc.cell 8
    have c9 : w7.cell? ⟨gc, 9, none⟩ = some (.bool c.di) := xc.cell 9
    clear xc
    go_wp2_with (first
      | (go_at_call 20; (with_reducible refine HBW.out.mono ?_); rintro e w ⟨rfl, rfl⟩)
      | fail)
    refine HRQ.out.mono ?_
    rintro e w8 ⟨hb8, Ax, nx, cx, Mx, rfl, hMx, hrx⟩
    clear c0 c1 c2 c3 c4 c5 c6 c7 c8 c9
    have HWB8 : Hid (Below W.heap.size W w8) := Lib.hid (below_trans HWB7.out hb8)
    have HKQ := Lib.hid (HKY.out w8 Ax nx cx Mx hMx hrx HWB8.out)
    clear hb8 hMx hrx
    go_wp2_with (first
      | (go_at_call 14; (with_reducible refine (HNU.out _ _).mono ?_); rintro e w ⟨rfl, rfl⟩)
      | (go_at_call 31; (with_reducible refine HKQ.out.mono ?_); rintro e w9 ⟨rfl, hb9⟩; have HB9 := Lib.hid hb9; clear hb9)
      | (go_at_call 18; (with_reducible refine (HKN.out _).mono ?_); rintro e w12 ⟨rfl, hb12⟩; have HB12 := Lib.hid hb12; clear hb12)
      | fail)
    go_ret
    exact ⟨rfl, below_trans HWB8.out (below_trans HB9.out HB12.out)⟩
  · have hnz : (z != 0) = true := by simpa using hz
    clear HRD HLEN HX xc hz
    go_wp2_with (first
      | (go_at_call 20; (with_reducible refine HBW.out.mono ?_); rintro e w ⟨rfl, rfl⟩)
      | (go_at_call 18; (with_reducible refine (HKN.out _).mono ?_); rintro e w11 ⟨rfl, hb11⟩; have HB11 := Lib.hid hb11; clear hb11)
      | fail)
    go_ret
    exact ⟨rfl, below_trans HWB7.out HB11.out⟩
end Go.Proofs.Ytaechgnjdjijkaa
