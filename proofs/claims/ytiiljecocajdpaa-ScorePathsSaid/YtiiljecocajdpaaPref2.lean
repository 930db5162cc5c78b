import Derived.Test.YtiiljecocajdpaaPath
import Derived.Test.YtiiljecocajdpaaInReg
import Derived.Test.YtiiljecocajdpaaWorth
/- The iterator over a path's prefix metrics: the program's. -/
namespace Go.Proofs.Ytiiljecocajdpaa
open Go.RowKit Go.Shelf
attribute [local go_sem] Oper.semAt_some

/-- The metric of some steps. -/
def Pb.psum (p : Pb) (pre : List p.Elem) : Int := pre.foldl (fun m x => m + p.br x.1.1 x.1.2) 0
theorem Pb.psum_snoc (p : Pb) (pre : List p.Elem) (x : p.Elem) : p.psum (pre ++ [x]) = p.psum pre + p.br x.1.1 x.1.2 := by simp [Pb.psum]
/-- The metrics of the beginnings. -/
def Pb.psums (p : Pb) (pre : List p.Elem) : List Int := (List.range (pre.length + 1)).map fun k => p.psum (pre.take k)
theorem Pb.psums_nil (p : Pb) : p.psums [] = [0] := rfl
theorem Pb.psums_snoc (p : Pb) (pre : List p.Elem) (x : p.Elem) : p.psums (pre ++ [x]) = p.psums pre ++ [p.psum (pre ++ [x])] := by
  unfold Pb.psums
  rw [List.length_append, List.length_singleton, List.range_succ, List.map_append]
  congr 1
  · apply List.map_congr_left
    intro k hk
    have : k ≤ pre.length := by simp at hk; omega
    rw [List.take_append_of_le_length this]
  · rw [List.map_singleton, List.take_of_length_le (by simp)]
theorem Pb.psums_len (p : Pb) (pre : List p.Elem) : (p.psums pre).length = pre.length + 1 := by simp [Pb.psums]
theorem Pb.br_bd (p : Pb) (h : probChk p = 0) (d v : Nat) : -12288 ≤ p.br d v ∧ p.br d v ≤ 12288 := by
  obtain ⟨⟨k1, k2⟩, l1, l2, cr, hwin, ⟨v1, v2⟩, hlev, hcc, htt⟩ := probChk_ok h
  have hl16 : ∀ x ∈ p.lv d, x < 16 := fun x hx => by
    have := hlev x (List.mem_of_mem_drop (List.mem_of_mem_take hx))
    omega
  have := brS_bd htt (p.C.y_lt v) hl16 p.C.R.toNat
  unfold Pb.br
  omega
theorem foldl_bound {α : Type} {f : α → Int} {c : Int} (h : ∀ x, -c ≤ f x ∧ f x ≤ c) : ∀ (l : List α) (m : Int), m - c * l.length ≤ l.foldl (fun m x => m + f x) m ∧ l.foldl (fun m x => m + f x) m ≤ m + c * l.length
  | [], m => by simp
  | x :: l, m => by
    have h1 := h x
    have h2 := foldl_bound h l (m + f x)
    simp only [List.foldl_cons, List.length_cons]
    have e : c * ((l.length + 1 : Nat) : Int) = c * (l.length : Int) + c := by push_cast; rw [Int.mul_add, Int.mul_one]
    rw [e]
    omega
theorem Pb.psum_bd (p : Pb) (h : probChk p = 0) (pre : List p.Elem) : -12288 * (pre.length : Int) ≤ p.psum pre ∧ p.psum pre ≤ 12288 * (pre.length : Int) := by
  have := foldl_bound (f := fun x : p.Elem => p.br x.1.1 x.1.2) (c := 12288) (fun x => p.br_bd h x.1.1 x.1.2) pre 0
  unfold Pb.psum
  omega
theorem score_path (v : Value) (p : Pb) (ab : Option Addr) (nb cb : Nat) (w : World) :
    Calls Try.prog 86 #[.agg (p.cells v), .slice ab nb cb] w fun e w' => (∃ b1 b2, e = .returned (.func (.func 100) #[] #[.pointer (some ⟨b1, 0, none⟩), .pointer (some ⟨b2, 0, none⟩)]) ∧ Box w' b1 (p.cells v) ∧ Box w' b2 #[.slice ab nb cb] ∧ w.heap.size ≤ b1 ∧ w.heap.size ≤ b2) ∧ Below w.heap.size w w' := by
  go_enter Try.func86, Try.ntmps86
  go_upto_region 1 with (fail)
  refine name2 ?_
  intro w0 b2 b3 B0
  go_wp2
  go_ret
  exact ⟨⟨_, _, rfl, b2, b3, Nat.le_refl _, by omega⟩, B0⟩
end Go.Proofs.Ytiiljecocajdpaa
/- The iterator over a path's prefix metrics, which ranges over the path's own. -/
namespace Go.Proofs.Ytiiljecocajdpaa
open Go.RowKit Go.Shelf
attribute [local go_sem] Oper.semAt_some

theorem roundIn_any {P : Program} {m m' l l2 : Nat} {f : FuncId} {tmps : Array Value} {assign body : Code} {w : World} {R : Ending → World → Prop} (h : RoundIn Fence.wide m P l f tmps assign body w R) : RoundIn (Fence.wide.inRound l2) m' P l f tmps assign body w R :=
  ⟨trivial, fun c cs _ => h.2 c cs (room_wide _)⟩
theorem Bytes.block' {A B : World} {ab : Option Addr} {l : List Nat} {Rd : Nat → Prop} (h : Bytes A ab l) (hK : Kept Rd A B) (r : ∀ b o s, ab = some ⟨b, o, s⟩ → Rd b) (_hR : ∀ k, Rd k → k < A.heap.size) : Bytes B ab l :=
  ⟨fun k hk => by
    obtain ⟨b, o, ha, hc⟩ := h.cell k hk
    exact ⟨b, o, ha, (World.cell?_of_block (hK.block (lt_of_cell hc) (r _ _ _ ha))).trans hc⟩, h.lt⟩
set_option maxRecDepth 5000 in
set_option maxHeartbeats 2000000 in
theorem prefixes_seq (p : Pb) (hp : p.Ok) (h : probChk p = 0) (bs : List Nat) (hbs : p.Path bs) (g o c b1 b2 br bw : Nat) (ab : Option Addr) (cb : Nat) (hcap : p.B.length ≤ c) (Rd : Nat → Prop) (W : World) (n : Nat)
    (x1 : Box W b1 (p.cells (.slice (some ⟨g, o, none⟩) p.B.length c))) (x2 : Box W b2 #[.slice ab bs.length cb]) (x3 : Box W br #[.int .i64 p.C.R])
    (x4 : Box W bw #[.func (.func 95) #[] #[.pointer (some ⟨b1, 0, none⟩), .pointer (some ⟨br, 0, none⟩)]])
    (hw : Bytes W (some ⟨g, o, none⟩) p.B) (hby : Bytes W ab bs) (r1 : Rd b1) (r2 : Rd b2) (r3 : Rd br) (r4 : Rd bw) (r5 : Rd g) (r6 : ∀ b o s, ab = some ⟨b, o, s⟩ → Rd b) (hRW : ∀ k, Rd k → k < W.heap.size) :
    SeqAt n Try.prog 96 #[.pointer (some ⟨b1, 0, none⟩), .pointer (some ⟨b2, 0, none⟩), .pointer (some ⟨bw, 0, none⟩)] (fun m : Int => #[.int .i64 m]) (fun xs => xs = p.psums (p.pathL bs)) (p.N.toNat + 1) Rd W := by
  intro l J hJ hY h0
  refine callsIn_of_wp_marks Try.func96 rfl trivial ?_ rfl
  simp only [Try.ntmps96, List.size_toArray, List.length_cons, List.length_nil, Nat.reduceAdd, Nat.reduceSub, Array.replicate_succ, Array.replicate_zero, List.push_toArray, List.append_toArray, List.nil_append, List.cons_append]
  refine wpIn_wide.2 ?_
  go_upto_region 2 with (fail)
  refine name2 ?_
  intro w0 b4 b5 B0
  obtain ⟨H0, hH0⟩ : ∃ H0 : Nat → Prop, H0 = fun k => k = W.heap.size ∨ k = W.heap.size + 1 := ⟨_, rfl⟩
  have J0 : J H0 [] w0 := hJ _ _ _ _ _ h0 (Turn.ofBelow B0) (fun k hk => by
    rw [hH0] at hk
    have := b5.lt
    rcases hk with rfl | rfl
    · exact ⟨.inr (Nat.le_refl _), by omega⟩
    · exact ⟨.inr (by omega), by omega⟩)
  have c4 := b4.cell 0
  have c5 := b5.cell 0
  simp only [List.getElem?_toArray, List.getElem?_cons_zero] at c4 c5
  obtain ⟨fn, tmps, assign, body, hy, hRd⟩ := hY _ _ 0 w0 J0 (by simp) (fun k hk => by rw [hH0] at hk; rcases hk with rfl | rfl <;> omega)
  dsimp only at hy
  refine (wpIn_wide (n := n)).1 (wpIn_region_lit ?_)
  gi_wp2
  refine ⟨fun h => (by cases h), hRd.mono ?_⟩
  rintro e w1 ⟨rfl, J1, K1⟩
  clear c4 c5 hRd hy
  gi_wp2
  have y1 := K1.box (x1.kept B0) (.inl r1)
  have y2 := K1.box (x2.kept B0) (.inl r2)
  obtain ⟨fk, fr, flev, fl, fwin, fcode, ftable, fall⟩ := y1.prob hp
  clear fk fr flev fl fwin fcode ftable
  have c2 := y2.cell 0
  simp only [List.getElem?_toArray, List.getElem?_cons_zero] at c2
  go_wp2_with ((with_reducible apply ld); rfl; (with_reducible assumption); (simp only [List.set_cons_zero, List.set_cons_succ]; rfl))
  refine (score_path _ p ab bs.length cb w1).mono ?_
  rintro e w2 ⟨⟨q1, q2, rfl, z1, z2, hq1, hq2⟩, B2⟩
  clear fall c2
  go_wp2_with fail
  have hs0 : W.heap.size + 2 ≤ w0.heap.size := by have := b5.lt; omega
  have hs1 : w0.heap.size ≤ w1.heap.size := K1.size
  have hs2 := B2.size
  have hlq1 := z1.lt
  have hlq2 := z2.lt
  -- the blocks that this iterator holds while the inner loop runs
  obtain ⟨H1, hH1⟩ : ∃ H1 : Nat → Prop, H1 = fun k => k = W.heap.size ∨ k = W.heap.size + 1 ∨ k = q1 ∨ k = q2 := ⟨_, rfl⟩
  obtain ⟨R1, hR1⟩ : ∃ R1 : Nat → Prop, R1 = fun k => Rd k ∨ k = W.heap.size ∨ k = q1 ∨ k = q2 := ⟨_, rfl⟩
  have b42 : Box w2 W.heap.size #[.func (.yield l) #[] #[]] := (K1.box b4 (.inr (by rw [hH0]; exact .inl rfl))).kept B2
  have b52 : Box w2 (W.heap.size + 1) #[.int .i64 0] := (K1.box b5 (.inr (by rw [hH0]; exact .inr rfl))).kept B2
  have J2 : J H1 [0] w2 := hJ _ _ _ _ _ J1 (Turn.ofBelow B2) (fun k hk => by
    rw [hH1] at hk
    rw [hH0]
    rcases hk with rfl | rfl | rfl | rfl
    · exact ⟨.inl (.inl rfl), by omega⟩
    · exact ⟨.inl (.inr rfl), by omega⟩
    · exact ⟨.inr hq1, by omega⟩
    · exact ⟨.inr hq2, by omega⟩)
  have KR : Kept Rd W w2 := ((Turn.ofBelow B0 : Kept Rd W w0).trans (Turn.mono K1 fun k _ hn hx => hn (.inl hx))).trans (Turn.ofBelow B2)
  refine (wpIn_wide (n := n)).1 (wp_rangeSeq (n := n) (gf := 100) (lb := #[.pointer (some ⟨q1, 0, none⟩), .pointer (some ⟨q2, 0, none⟩)]) rfl (EnterF.out (P := Try.prog)) (encs := p.enc) (S := fun xs => xs = p.pathL bs) (N := p.N.toNat) (Rd := R1) ?hseq ?hRd (fun x => rfl)
    (fun H pre A => Box A (W.heap.size + 1) #[.int .i64 (p.psum pre)] ∧ Kept R1 w2 A ∧ J (fun k => H k ∨ H1 k) (p.psums pre) A) ?hI ?h0 ?hround ?hdone)
  case hseq =>
    intro A hA
    exact path_seq p hp h bs hbs _ ab cb q1 q2 R1 A _ (z1.kept hA) (z2.kept hA) (hby.block' ((KR.trans (Turn.ofBelow hA))) r6 hRW) (by rw [hR1]; exact .inr (.inr (.inl rfl))) (by rw [hR1]; exact .inr (.inr (.inr rfl))) (fun b o s he => by rw [hR1]; exact .inl (r6 b o s he))
  case hRd =>
    intro k hk
    rw [hR1] at hk
    rcases hk with hk | rfl | rfl | rfl
    · have := hRW k hk; omega
    · omega
    · omega
    · omega
  case hI =>
    rintro H H' s A A' ⟨i1, i2, i3⟩ hT hH hH'
    refine ⟨hT.box i1 (fun hx => by have := hH _ hx; omega), i2.trans (Turn.mono hT fun k hk hx hr => ?_), hJ _ _ _ _ _ i3 (hT.mono fun k _ hx => .inl hx) (fun k hk => ?_)⟩
    · have h1 := hH _ hx
      rw [hR1] at hr
      rcases hr with hr | rfl | rfl | rfl
      · have := hRW k hr; omega
      · omega
      · omega
      · omega
    · have hsz := i2.size
      have hsT := hT.size
      rcases hk with hk | hk
      · obtain ⟨h1, h2⟩ := hH' k hk
        exact ⟨h1.imp .inl id, h2⟩
      · refine ⟨.inl (.inr hk), ?_⟩
        rw [hH1] at hk
        rcases hk with rfl | rfl | rfl | rfl <;> omega
  case h0 =>
    exact ⟨b52, Turn.refl _ _, hJ _ _ _ _ _ J2 (Turn.refl _ _) (fun k hk => by
      rcases hk with hk | hk
      · exact hk.elim
      · refine ⟨.inl hk, ?_⟩
        rw [hH1] at hk
        rcases hk with rfl | rfl | rfl | rfl <;> omega)⟩
  case hround =>
    rintro l2 H pre x A ⟨i1, i2, i3⟩ hlen hH hl2
    have hbz := Box.new A #[.int .u8 0, .int .u8 0, .int .u8 0] 97
    have hfl : Flat (ya (p.C.y x.1.2)) := ya_flat _
    have hA2 := i2.size
    simp only [Pb.enc]
    gi_wp2_with ((with_reducible apply stIn); exact fn_round _; rfl; rfl; exact hbz; rfl; rfl; exact hfl; intro w4 b7 B4 ho4 hs4)
    have B4A : Below A.heap.size A w4 := ((Below.refl _ A).alloc (Nat.le_refl _) _).trans B4
    refine ⟨Turn.ofBelow B4A, fun w5 hT5 => ?_⟩
    have hs4' := B4A.size
    have hs5 := hT5.size
    have hlA : l2 < A.heap.size := (hH _ hl2).2
    have hgl2 := (hH _ hl2).1
    have i15 : Box w5 (W.heap.size + 1) #[.int .i64 (p.psum pre)] := hT5.box (i1.kept B4A) (by omega)
    have b75 : Box w5 A.heap.size (ya (p.C.y x.1.2)) := hT5.box b7 (by omega)
    have hlR : ¬R1 l2 := fun hx => by
      rw [hR1] at hx
      rcases hx with hx | rfl | rfl | rfl
      · have := hRW _ hx; omega
      · omega
      · omega
      · omega
    have K5 : Kept R1 w2 w5 := (i2.trans (Turn.ofBelow B4A)).trans (Turn.mono hT5 fun k _ hk hx => hlR (hk ▸ hx))
    have K5W : Kept Rd W w5 := KR.trans (Turn.mono K5 fun k _ hn hx => hn (by rw [hR1]; exact .inl hx))
    have y1 := K5W.box x1 r1
    have y3 := K5W.box x3 r3
    have y4 := K5W.box x4 r4
    have y5 := hw.block' K5W (fun b o' s he => by obtain ⟨rfl, _⟩ : g = b ∧ o = o' := by simp at he; exact ⟨he.1, he.2.1⟩
                                                  exact r5) hRW
    have c5 := i15.cell 0
    have cw := y4.cell 0
    simp only [List.getElem?_toArray, List.getElem?_cons_zero] at c5 cw
    have gY := b75.load (off := 0) (n := 3) (cs' := ya (p.C.y x.1.2)) (by rw [ya_size]; omega) (Array.extract_eq_self_of_le (by rw [ya_size]; omega))
    have hxN : (x.1.1 : Int) < p.N := by have := x.2; omega
    refine wpIn_block (wpIn_seq ?_)
    refine wpIn_region_det_tail 6 (by kernel_rfl) (by kernel_rfl) rfl ?_
    simp only [List.take_succ_cons, List.take_zero, List.drop_succ_cons, List.drop_zero]
    have q0 := KeptW.cell c5
    have qw := KeptW.cell cw
    repeat first
      | ((refine det_plain rfl ?_); ((with_reducible apply q_ld); rfl; (with_reducible assumption); (simp only [List.set_cons_zero, List.set_cons_succ]; rfl)); (refine wpQuiet_nil ?_))
      | ((with_reducible apply det_call); rfl; infer_instance; rfl; (intro w1 B1; exact score_worth p hp h g o c b1 br hcap x.1.1 hxN x.1.2 w1 (y1.kept B1) (y3.kept B1) (y5.kept B1)); (simp only [List.set_cons_zero, List.set_cons_succ]; rfl))
      | ((refine det_plain rfl ?_); (go_big_quiet_step (fail)); (refine wpQuiet_nil ?_))
    refine wpDet_nil ?_
    intro w6 B6
    clear q0 qw c5 cw gY
    have hbnd := p.psum_bd h pre
    have hbr := p.br_bd h x.1.1 x.1.2
    have hN : p.N ≤ 1055 := by
      obtain ⟨⟨k1, k2⟩, l1, l2, _⟩ := probChk_ok h
      unfold Pb.N
      omega
    have hsum : wrap64 (p.psum pre + p.br x.1.1 x.1.2) = p.psum (pre ++ [x]) := by
      rw [p.psum_snoc]
      unfold wrap64
      omega
    have i16 := i15.kept B6
    have c5 := i16.cell 0
    have f5 := i16.frozen 0
    have y46 : Box w6 W.heap.size #[.func (.yield l) #[] #[]] := (K5.box b42 (by rw [hR1]; exact .inr (.inl rfl))).kept B6
    have c4 := y46.cell 0
    simp only [List.getElem?_toArray, List.getElem?_cons_zero] at c5 c4
    obtain ⟨w7, hw7⟩ : ∃ w7, w7 = w6.setCell ⟨W.heap.size + 1, 0, none⟩ (.int .i64 (p.psum (pre ++ [x]))) := ⟨_, rfl⟩
    have J5 : J (fun k => H k ∨ H1 k) (p.psums pre) w7 := by
      have hT : Turn (fun k => H k ∨ H1 k) A w7 := by
        rw [hw7]
        exact (((Turn.ofBelow B4A).trans (Turn.mono hT5 fun k _ hk => hk ▸ .inl hl2)).trans (Turn.ofBelow B6)).trans (Turn.setCell _ _ _ (.inr (by rw [hH1]; exact .inr (.inl rfl))))
      exact hJ _ _ _ _ _ i3 hT (fun k hk => ⟨.inl hk, by
        have hszT := hT.size
        rcases hk with hk | hk
        · have := (hH k hk).2; omega
        · rw [hH1] at hk
          rcases hk with rfl | rfl | rfl | rfl <;> omega⟩)
    have i17 : Box w7 (W.heap.size + 1) #[.int .i64 (p.psum (pre ++ [x]))] := by rw [hw7]; exact (i16.setCell _).cast rfl
    have y47 : Box w7 W.heap.size #[.func (.yield l) #[] #[]] := by rw [hw7]; exact y46.setOther (by simp) _
    obtain ⟨fn2, tmps2, assign2, body2, hy2, hR2⟩ := hY _ _ (p.psum (pre ++ [x])) w7 J5 (by rw [p.psums_len]; omega) (fun k hk => by
      rcases hk with hk | hk
      · have := (hH k hk).1; omega
      · rw [hH1] at hk
        rcases hk with rfl | rfl | rfl | rfl <;> omega)
    have g4 := y47.cell 0
    have g5 := i17.cell 0
    simp only [List.getElem?_toArray, List.getElem?_cons_zero] at g4 g5
    subst hw7
    gi_wp2
    refine ⟨fun h => (by cases h), (roundIn_any hR2).mono ?_⟩
    rintro e w8 ⟨rfl, J8, K8⟩
    gi_wp2
    have hRH : ∀ k, R1 k → Rd k ∨ (H k ∨ H1 k) := fun k hk => by
      rw [hR1] at hk
      rw [hH1]
      rcases hk with hk | hk | hk | hk
      · exact .inl hk
      · exact .inr (.inr (.inl hk))
      · exact .inr (.inr (.inr (.inr (.inl hk))))
      · exact .inr (.inr (.inr (.inr (.inr hk))))
    have hb5 : ¬(R1 (W.heap.size + 1) ∨ H (W.heap.size + 1)) := fun hx => by
      rcases hx with hx | hx
      · rw [hR1] at hx
        rcases hx with hx | hx | hx | hx
        · have := hRW _ hx; omega
        · omega
        · omega
        · omega
      · have := (hH _ hx).1; omega
    have K58 : Kept (fun k => R1 k ∨ H k) w5 _ := ((Turn.ofBelow B6).trans (Turn.setCell _ _ _ hb5)).trans (Turn.mono K8 fun k _ hn hx => hn (hx.elim (hRH k) fun hx => .inr (.inl hx)))
    exact (show roundEnds _ _ _ _ _ .normal _ _ from ⟨K58, K8.box i17 (.inr (.inr (by rw [hH1]; exact .inr (.inl rfl)))), K5.trans (Turn.mono K58 fun k _ hn hx => hn (.inl hx)), by rw [p.psums_snoc]; exact J8⟩)
  case hdone =>
    rintro H xs A rfl ⟨i1, i2, i3⟩ hH hHD hD
    refine ⟨by simp, .inl ⟨_, _, rfl, run_takeDeferred hD, ?_⟩⟩
    refine ⟨_, results_nil rfl, ⟨_, rfl⟩, _, _, rfl, hJ _ (fun k => H k ∨ H1 k) _ _ _ i3 (Turn.putObj _ _ (.inl hHD)) (fun k hk => ⟨.inl hk, ?_⟩), fun k hk => ?_⟩
    · have hsz := i2.size
      rw [World.putObj_size]
      rcases hk with hk | hk
      · exact (hH k hk).2
      · rw [hH1] at hk
        rcases hk with rfl | rfl | rfl | rfl <;> omega
    · rcases hk with hk | hk
      · have := (hH k hk).1; omega
      · rw [hH1] at hk
        rcases hk with rfl | rfl | rfl | rfl <;> omega
end Go.Proofs.Ytiiljecocajdpaa
