/- SX, part 2: carrying out. -/
import Derived.Test.YtdjeokgkeejpcaaGreatDoorAx10
namespace Go.Proofs.YtdjeokgkeejpcaaGreatDoor.AX
def g0 : Fr → FV := fun fr => fr.lo.a.a.a.a
def g1 : Fr → FV := fun fr => fr.lo.a.a.a.b
def g2 : Fr → FV := fun fr => fr.lo.a.a.a.c
def g3 : Fr → FV := fun fr => fr.lo.a.a.a.d
def g4 : Fr → FV := fun fr => fr.lo.a.a.b.a
def g5 : Fr → FV := fun fr => fr.lo.a.a.b.b
def g6 : Fr → FV := fun fr => fr.lo.a.a.b.c
def g7 : Fr → FV := fun fr => fr.lo.a.a.b.d
def g8 : Fr → FV := fun fr => fr.lo.a.a.c.a
def g9 : Fr → FV := fun fr => fr.lo.a.a.c.b
def g10 : Fr → FV := fun fr => fr.lo.a.a.c.c
def g11 : Fr → FV := fun fr => fr.lo.a.a.c.d
def g12 : Fr → FV := fun fr => fr.lo.a.a.d.a
def g13 : Fr → FV := fun fr => fr.lo.a.a.d.b
def g14 : Fr → FV := fun fr => fr.lo.a.a.d.c
def g15 : Fr → FV := fun fr => fr.lo.a.a.d.d
def g16 : Fr → FV := fun fr => fr.lo.a.b.a.a
def g17 : Fr → FV := fun fr => fr.lo.a.b.a.b
def g18 : Fr → FV := fun fr => fr.lo.a.b.a.c
def g19 : Fr → FV := fun fr => fr.lo.a.b.a.d
def g20 : Fr → FV := fun fr => fr.lo.a.b.b.a
def g21 : Fr → FV := fun fr => fr.lo.a.b.b.b
def g22 : Fr → FV := fun fr => fr.lo.a.b.b.c
def g23 : Fr → FV := fun fr => fr.lo.a.b.b.d
def g24 : Fr → FV := fun fr => fr.lo.a.b.c.a
def g25 : Fr → FV := fun fr => fr.lo.a.b.c.b
def g26 : Fr → FV := fun fr => fr.lo.a.b.c.c
def g27 : Fr → FV := fun fr => fr.lo.a.b.c.d
def g28 : Fr → FV := fun fr => fr.lo.a.b.d.a
def g29 : Fr → FV := fun fr => fr.lo.a.b.d.b
def g30 : Fr → FV := fun fr => fr.lo.a.b.d.c
def g31 : Fr → FV := fun fr => fr.lo.a.b.d.d
def g32 : Fr → FV := fun fr => fr.lo.a.c.a.a
def g33 : Fr → FV := fun fr => fr.lo.a.c.a.b
def g34 : Fr → FV := fun fr => fr.lo.a.c.a.c
def g35 : Fr → FV := fun fr => fr.lo.a.c.a.d
def g36 : Fr → FV := fun fr => fr.lo.a.c.b.a
def g37 : Fr → FV := fun fr => fr.lo.a.c.b.b
def g38 : Fr → FV := fun fr => fr.lo.a.c.b.c
def g39 : Fr → FV := fun fr => fr.lo.a.c.b.d
def g40 : Fr → FV := fun fr => fr.lo.a.c.c.a
def g41 : Fr → FV := fun fr => fr.lo.a.c.c.b
def g42 : Fr → FV := fun fr => fr.lo.a.c.c.c
def g43 : Fr → FV := fun fr => fr.lo.a.c.c.d
def g44 : Fr → FV := fun fr => fr.lo.a.c.d.a
def g45 : Fr → FV := fun fr => fr.lo.a.c.d.b
def g46 : Fr → FV := fun fr => fr.lo.a.c.d.c
def g47 : Fr → FV := fun fr => fr.lo.a.c.d.d
def g48 : Fr → FV := fun fr => fr.lo.a.d.a.a
def g49 : Fr → FV := fun fr => fr.lo.a.d.a.b
def g50 : Fr → FV := fun fr => fr.lo.a.d.a.c
def g51 : Fr → FV := fun fr => fr.lo.a.d.a.d
def g52 : Fr → FV := fun fr => fr.lo.a.d.b.a
def g53 : Fr → FV := fun fr => fr.lo.a.d.b.b
def g54 : Fr → FV := fun fr => fr.lo.a.d.b.c
def g55 : Fr → FV := fun fr => fr.lo.a.d.b.d
def g56 : Fr → FV := fun fr => fr.lo.a.d.c.a
def g57 : Fr → FV := fun fr => fr.lo.a.d.c.b
def g58 : Fr → FV := fun fr => fr.lo.a.d.c.c
def g59 : Fr → FV := fun fr => fr.lo.a.d.c.d
def g60 : Fr → FV := fun fr => fr.lo.a.d.d.a
def g61 : Fr → FV := fun fr => fr.lo.a.d.d.b
def g62 : Fr → FV := fun fr => fr.lo.a.d.d.c
def g63 : Fr → FV := fun fr => fr.lo.a.d.d.d
def g64 : Fr → FV := fun fr => fr.lo.b.a.a.a
def g65 : Fr → FV := fun fr => fr.lo.b.a.a.b
def g66 : Fr → FV := fun fr => fr.lo.b.a.a.c
def g67 : Fr → FV := fun fr => fr.lo.b.a.a.d
def g68 : Fr → FV := fun fr => fr.lo.b.a.b.a
def g69 : Fr → FV := fun fr => fr.lo.b.a.b.b
def g70 : Fr → FV := fun fr => fr.lo.b.a.b.c
def g71 : Fr → FV := fun fr => fr.lo.b.a.b.d
def g72 : Fr → FV := fun fr => fr.lo.b.a.c.a
def g73 : Fr → FV := fun fr => fr.lo.b.a.c.b
def g74 : Fr → FV := fun fr => fr.lo.b.a.c.c
def g75 : Fr → FV := fun fr => fr.lo.b.a.c.d
def g76 : Fr → FV := fun fr => fr.lo.b.a.d.a
def g77 : Fr → FV := fun fr => fr.lo.b.a.d.b
def g78 : Fr → FV := fun fr => fr.lo.b.a.d.c
def g79 : Fr → FV := fun fr => fr.lo.b.a.d.d
def g80 : Fr → FV := fun fr => fr.lo.b.b.a.a
def g81 : Fr → FV := fun fr => fr.lo.b.b.a.b
def g82 : Fr → FV := fun fr => fr.lo.b.b.a.c
def g83 : Fr → FV := fun fr => fr.lo.b.b.a.d
def g84 : Fr → FV := fun fr => fr.lo.b.b.b.a
def g85 : Fr → FV := fun fr => fr.lo.b.b.b.b
def g86 : Fr → FV := fun fr => fr.lo.b.b.b.c
def g87 : Fr → FV := fun fr => fr.lo.b.b.b.d
def g88 : Fr → FV := fun fr => fr.lo.b.b.c.a
def g89 : Fr → FV := fun fr => fr.lo.b.b.c.b
def g90 : Fr → FV := fun fr => fr.lo.b.b.c.c
def g91 : Fr → FV := fun fr => fr.lo.b.b.c.d
def g92 : Fr → FV := fun fr => fr.lo.b.b.d.a
def g93 : Fr → FV := fun fr => fr.lo.b.b.d.b
def g94 : Fr → FV := fun fr => fr.lo.b.b.d.c
def g95 : Fr → FV := fun fr => fr.lo.b.b.d.d
def g96 : Fr → FV := fun fr => fr.lo.b.c.a.a
def g97 : Fr → FV := fun fr => fr.lo.b.c.a.b
def g98 : Fr → FV := fun fr => fr.lo.b.c.a.c
def g99 : Fr → FV := fun fr => fr.lo.b.c.a.d
def g100 : Fr → FV := fun fr => fr.lo.b.c.b.a
def g101 : Fr → FV := fun fr => fr.lo.b.c.b.b
def g102 : Fr → FV := fun fr => fr.lo.b.c.b.c
def g103 : Fr → FV := fun fr => fr.lo.b.c.b.d
def g104 : Fr → FV := fun fr => fr.lo.b.c.c.a
def g105 : Fr → FV := fun fr => fr.lo.b.c.c.b
def g106 : Fr → FV := fun fr => fr.lo.b.c.c.c
def g107 : Fr → FV := fun fr => fr.lo.b.c.c.d
def g108 : Fr → FV := fun fr => fr.lo.b.c.d.a
def g109 : Fr → FV := fun fr => fr.lo.b.c.d.b
def g110 : Fr → FV := fun fr => fr.lo.b.c.d.c
def g111 : Fr → FV := fun fr => fr.lo.b.c.d.d
def g112 : Fr → FV := fun fr => fr.lo.b.d.a.a
def g113 : Fr → FV := fun fr => fr.lo.b.d.a.b
def g114 : Fr → FV := fun fr => fr.lo.b.d.a.c
def g115 : Fr → FV := fun fr => fr.lo.b.d.a.d
def g116 : Fr → FV := fun fr => fr.lo.b.d.b.a
def g117 : Fr → FV := fun fr => fr.lo.b.d.b.b
def g118 : Fr → FV := fun fr => fr.lo.b.d.b.c
def g119 : Fr → FV := fun fr => fr.lo.b.d.b.d
def g120 : Fr → FV := fun fr => fr.lo.b.d.c.a
def g121 : Fr → FV := fun fr => fr.lo.b.d.c.b
def g122 : Fr → FV := fun fr => fr.lo.b.d.c.c
def g123 : Fr → FV := fun fr => fr.lo.b.d.c.d
def g124 : Fr → FV := fun fr => fr.lo.b.d.d.a
def g125 : Fr → FV := fun fr => fr.lo.b.d.d.b
def g126 : Fr → FV := fun fr => fr.lo.b.d.d.c
def g127 : Fr → FV := fun fr => fr.lo.b.d.d.d
def g128 : Fr → FV := fun fr => fr.lo.c.a.a.a
def g129 : Fr → FV := fun fr => fr.lo.c.a.a.b
def g130 : Fr → FV := fun fr => fr.lo.c.a.a.c
def g131 : Fr → FV := fun fr => fr.lo.c.a.a.d
def g132 : Fr → FV := fun fr => fr.lo.c.a.b.a
def g133 : Fr → FV := fun fr => fr.lo.c.a.b.b
def g134 : Fr → FV := fun fr => fr.lo.c.a.b.c
def g135 : Fr → FV := fun fr => fr.lo.c.a.b.d
def g136 : Fr → FV := fun fr => fr.lo.c.a.c.a
def g137 : Fr → FV := fun fr => fr.lo.c.a.c.b
def g138 : Fr → FV := fun fr => fr.lo.c.a.c.c
def g139 : Fr → FV := fun fr => fr.lo.c.a.c.d
def g140 : Fr → FV := fun fr => fr.lo.c.a.d.a
def g141 : Fr → FV := fun fr => fr.lo.c.a.d.b
def g142 : Fr → FV := fun fr => fr.lo.c.a.d.c
def g143 : Fr → FV := fun fr => fr.lo.c.a.d.d
def g144 : Fr → FV := fun fr => fr.lo.c.b.a.a
def g145 : Fr → FV := fun fr => fr.lo.c.b.a.b
def g146 : Fr → FV := fun fr => fr.lo.c.b.a.c
def g147 : Fr → FV := fun fr => fr.lo.c.b.a.d
def g148 : Fr → FV := fun fr => fr.lo.c.b.b.a
def g149 : Fr → FV := fun fr => fr.lo.c.b.b.b
def g150 : Fr → FV := fun fr => fr.lo.c.b.b.c
def g151 : Fr → FV := fun fr => fr.lo.c.b.b.d
def g152 : Fr → FV := fun fr => fr.lo.c.b.c.a
def g153 : Fr → FV := fun fr => fr.lo.c.b.c.b
def g154 : Fr → FV := fun fr => fr.lo.c.b.c.c
def g155 : Fr → FV := fun fr => fr.lo.c.b.c.d
def g156 : Fr → FV := fun fr => fr.lo.c.b.d.a
def g157 : Fr → FV := fun fr => fr.lo.c.b.d.b
def g158 : Fr → FV := fun fr => fr.lo.c.b.d.c
def g159 : Fr → FV := fun fr => fr.lo.c.b.d.d
def g160 : Fr → FV := fun fr => fr.lo.c.c.a.a
def g161 : Fr → FV := fun fr => fr.lo.c.c.a.b
def g162 : Fr → FV := fun fr => fr.lo.c.c.a.c
def g163 : Fr → FV := fun fr => fr.lo.c.c.a.d
def g164 : Fr → FV := fun fr => fr.lo.c.c.b.a
def g165 : Fr → FV := fun fr => fr.lo.c.c.b.b
def g166 : Fr → FV := fun fr => fr.lo.c.c.b.c
def g167 : Fr → FV := fun fr => fr.lo.c.c.b.d
def g168 : Fr → FV := fun fr => fr.lo.c.c.c.a
def g169 : Fr → FV := fun fr => fr.lo.c.c.c.b
def g170 : Fr → FV := fun fr => fr.lo.c.c.c.c
def g171 : Fr → FV := fun fr => fr.lo.c.c.c.d
def g172 : Fr → FV := fun fr => fr.lo.c.c.d.a
def g173 : Fr → FV := fun fr => fr.lo.c.c.d.b
def g174 : Fr → FV := fun fr => fr.lo.c.c.d.c
def g175 : Fr → FV := fun fr => fr.lo.c.c.d.d
def g176 : Fr → FV := fun fr => fr.lo.c.d.a.a
def g177 : Fr → FV := fun fr => fr.lo.c.d.a.b
def g178 : Fr → FV := fun fr => fr.lo.c.d.a.c
def g179 : Fr → FV := fun fr => fr.lo.c.d.a.d
def g180 : Fr → FV := fun fr => fr.lo.c.d.b.a
def g181 : Fr → FV := fun fr => fr.lo.c.d.b.b
def g182 : Fr → FV := fun fr => fr.lo.c.d.b.c
def g183 : Fr → FV := fun fr => fr.lo.c.d.b.d
def g184 : Fr → FV := fun fr => fr.lo.c.d.c.a
def g185 : Fr → FV := fun fr => fr.lo.c.d.c.b
def g186 : Fr → FV := fun fr => fr.lo.c.d.c.c
def g187 : Fr → FV := fun fr => fr.lo.c.d.c.d
def g188 : Fr → FV := fun fr => fr.lo.c.d.d.a
def g189 : Fr → FV := fun fr => fr.lo.c.d.d.b
def g190 : Fr → FV := fun fr => fr.lo.c.d.d.c
def g191 : Fr → FV := fun fr => fr.lo.c.d.d.d
def g192 : Fr → FV := fun fr => fr.lo.d.a.a.a
def g193 : Fr → FV := fun fr => fr.lo.d.a.a.b
def g194 : Fr → FV := fun fr => fr.lo.d.a.a.c
def g195 : Fr → FV := fun fr => fr.lo.d.a.a.d
def g196 : Fr → FV := fun fr => fr.lo.d.a.b.a
def g197 : Fr → FV := fun fr => fr.lo.d.a.b.b
def g198 : Fr → FV := fun fr => fr.lo.d.a.b.c
def g199 : Fr → FV := fun fr => fr.lo.d.a.b.d
def g200 : Fr → FV := fun fr => fr.lo.d.a.c.a
def g201 : Fr → FV := fun fr => fr.lo.d.a.c.b
def g202 : Fr → FV := fun fr => fr.lo.d.a.c.c
def g203 : Fr → FV := fun fr => fr.lo.d.a.c.d
def g204 : Fr → FV := fun fr => fr.lo.d.a.d.a
def g205 : Fr → FV := fun fr => fr.lo.d.a.d.b
def g206 : Fr → FV := fun fr => fr.lo.d.a.d.c
def g207 : Fr → FV := fun fr => fr.lo.d.a.d.d
def g208 : Fr → FV := fun fr => fr.lo.d.b.a.a
def g209 : Fr → FV := fun fr => fr.lo.d.b.a.b
def g210 : Fr → FV := fun fr => fr.lo.d.b.a.c
def g211 : Fr → FV := fun fr => fr.lo.d.b.a.d
def g212 : Fr → FV := fun fr => fr.lo.d.b.b.a
def g213 : Fr → FV := fun fr => fr.lo.d.b.b.b
def g214 : Fr → FV := fun fr => fr.lo.d.b.b.c
def g215 : Fr → FV := fun fr => fr.lo.d.b.b.d
def g216 : Fr → FV := fun fr => fr.lo.d.b.c.a
def g217 : Fr → FV := fun fr => fr.lo.d.b.c.b
def g218 : Fr → FV := fun fr => fr.lo.d.b.c.c
def g219 : Fr → FV := fun fr => fr.lo.d.b.c.d
def g220 : Fr → FV := fun fr => fr.lo.d.b.d.a
def g221 : Fr → FV := fun fr => fr.lo.d.b.d.b
def g222 : Fr → FV := fun fr => fr.lo.d.b.d.c
def g223 : Fr → FV := fun fr => fr.lo.d.b.d.d
def g224 : Fr → FV := fun fr => fr.lo.d.c.a.a
def g225 : Fr → FV := fun fr => fr.lo.d.c.a.b
def g226 : Fr → FV := fun fr => fr.lo.d.c.a.c
def g227 : Fr → FV := fun fr => fr.lo.d.c.a.d
def g228 : Fr → FV := fun fr => fr.lo.d.c.b.a
def g229 : Fr → FV := fun fr => fr.lo.d.c.b.b
def g230 : Fr → FV := fun fr => fr.lo.d.c.b.c
def g231 : Fr → FV := fun fr => fr.lo.d.c.b.d
def g232 : Fr → FV := fun fr => fr.lo.d.c.c.a
def g233 : Fr → FV := fun fr => fr.lo.d.c.c.b
def g234 : Fr → FV := fun fr => fr.lo.d.c.c.c
def g235 : Fr → FV := fun fr => fr.lo.d.c.c.d
def g236 : Fr → FV := fun fr => fr.lo.d.c.d.a
def g237 : Fr → FV := fun fr => fr.lo.d.c.d.b
def g238 : Fr → FV := fun fr => fr.lo.d.c.d.c
def g239 : Fr → FV := fun fr => fr.lo.d.c.d.d
def g240 : Fr → FV := fun fr => fr.lo.d.d.a.a
def g241 : Fr → FV := fun fr => fr.lo.d.d.a.b
def g242 : Fr → FV := fun fr => fr.lo.d.d.a.c
def g243 : Fr → FV := fun fr => fr.lo.d.d.a.d
def g244 : Fr → FV := fun fr => fr.lo.d.d.b.a
def g245 : Fr → FV := fun fr => fr.lo.d.d.b.b
def g246 : Fr → FV := fun fr => fr.lo.d.d.b.c
def g247 : Fr → FV := fun fr => fr.lo.d.d.b.d
def g248 : Fr → FV := fun fr => fr.lo.d.d.c.a
def g249 : Fr → FV := fun fr => fr.lo.d.d.c.b
def g250 : Fr → FV := fun fr => fr.lo.d.d.c.c
def g251 : Fr → FV := fun fr => fr.lo.d.d.c.d
def g252 : Fr → FV := fun fr => fr.lo.d.d.d.a
def g253 : Fr → FV := fun fr => fr.lo.d.d.d.b
def g254 : Fr → FV := fun fr => fr.lo.d.d.d.c
def g255 : Fr → FV := fun fr => fr.lo.d.d.d.d
noncomputable def s0 (v : FV) (fr : Fr) : Fr := Fr.rec (fun lo hi => Q.rec (fun a0 b0 c0 d0 => Q.rec (fun a1 b1 c1 d1 => Q.rec (fun a2 b2 c2 d2 => Q.rec (fun _ b3 c3 d3 => ⟨⟨⟨⟨⟨v, b3, c3, d3⟩, b2, c2, d2⟩, b1, c1, d1⟩, b0, c0, d0⟩, hi⟩) a2) a1) a0) lo) fr
noncomputable def s1 (v : FV) (fr : Fr) : Fr := Fr.rec (fun lo hi => Q.rec (fun a0 b0 c0 d0 => Q.rec (fun a1 b1 c1 d1 => Q.rec (fun a2 b2 c2 d2 => Q.rec (fun a3 _ c3 d3 => ⟨⟨⟨⟨⟨a3, v, c3, d3⟩, b2, c2, d2⟩, b1, c1, d1⟩, b0, c0, d0⟩, hi⟩) a2) a1) a0) lo) fr
noncomputable def s2 (v : FV) (fr : Fr) : Fr := Fr.rec (fun lo hi => Q.rec (fun a0 b0 c0 d0 => Q.rec (fun a1 b1 c1 d1 => Q.rec (fun a2 b2 c2 d2 => Q.rec (fun a3 b3 _ d3 => ⟨⟨⟨⟨⟨a3, b3, v, d3⟩, b2, c2, d2⟩, b1, c1, d1⟩, b0, c0, d0⟩, hi⟩) a2) a1) a0) lo) fr
noncomputable def s3 (v : FV) (fr : Fr) : Fr := Fr.rec (fun lo hi => Q.rec (fun a0 b0 c0 d0 => Q.rec (fun a1 b1 c1 d1 => Q.rec (fun a2 b2 c2 d2 => Q.rec (fun a3 b3 c3 _ => ⟨⟨⟨⟨⟨a3, b3, c3, v⟩, b2, c2, d2⟩, b1, c1, d1⟩, b0, c0, d0⟩, hi⟩) a2) a1) a0) lo) fr
noncomputable def s4 (v : FV) (fr : Fr) : Fr := Fr.rec (fun lo hi => Q.rec (fun a0 b0 c0 d0 => Q.rec (fun a1 b1 c1 d1 => Q.rec (fun a2 b2 c2 d2 => Q.rec (fun _ b3 c3 d3 => ⟨⟨⟨⟨a2, ⟨v, b3, c3, d3⟩, c2, d2⟩, b1, c1, d1⟩, b0, c0, d0⟩, hi⟩) b2) a1) a0) lo) fr
noncomputable def s5 (v : FV) (fr : Fr) : Fr := Fr.rec (fun lo hi => Q.rec (fun a0 b0 c0 d0 => Q.rec (fun a1 b1 c1 d1 => Q.rec (fun a2 b2 c2 d2 => Q.rec (fun a3 _ c3 d3 => ⟨⟨⟨⟨a2, ⟨a3, v, c3, d3⟩, c2, d2⟩, b1, c1, d1⟩, b0, c0, d0⟩, hi⟩) b2) a1) a0) lo) fr
noncomputable def s6 (v : FV) (fr : Fr) : Fr := Fr.rec (fun lo hi => Q.rec (fun a0 b0 c0 d0 => Q.rec (fun a1 b1 c1 d1 => Q.rec (fun a2 b2 c2 d2 => Q.rec (fun a3 b3 _ d3 => ⟨⟨⟨⟨a2, ⟨a3, b3, v, d3⟩, c2, d2⟩, b1, c1, d1⟩, b0, c0, d0⟩, hi⟩) b2) a1) a0) lo) fr
noncomputable def s7 (v : FV) (fr : Fr) : Fr := Fr.rec (fun lo hi => Q.rec (fun a0 b0 c0 d0 => Q.rec (fun a1 b1 c1 d1 => Q.rec (fun a2 b2 c2 d2 => Q.rec (fun a3 b3 c3 _ => ⟨⟨⟨⟨a2, ⟨a3, b3, c3, v⟩, c2, d2⟩, b1, c1, d1⟩, b0, c0, d0⟩, hi⟩) b2) a1) a0) lo) fr
noncomputable def s8 (v : FV) (fr : Fr) : Fr := Fr.rec (fun lo hi => Q.rec (fun a0 b0 c0 d0 => Q.rec (fun a1 b1 c1 d1 => Q.rec (fun a2 b2 c2 d2 => Q.rec (fun _ b3 c3 d3 => ⟨⟨⟨⟨a2, b2, ⟨v, b3, c3, d3⟩, d2⟩, b1, c1, d1⟩, b0, c0, d0⟩, hi⟩) c2) a1) a0) lo) fr
noncomputable def s9 (v : FV) (fr : Fr) : Fr := Fr.rec (fun lo hi => Q.rec (fun a0 b0 c0 d0 => Q.rec (fun a1 b1 c1 d1 => Q.rec (fun a2 b2 c2 d2 => Q.rec (fun a3 _ c3 d3 => ⟨⟨⟨⟨a2, b2, ⟨a3, v, c3, d3⟩, d2⟩, b1, c1, d1⟩, b0, c0, d0⟩, hi⟩) c2) a1) a0) lo) fr
noncomputable def s10 (v : FV) (fr : Fr) : Fr := Fr.rec (fun lo hi => Q.rec (fun a0 b0 c0 d0 => Q.rec (fun a1 b1 c1 d1 => Q.rec (fun a2 b2 c2 d2 => Q.rec (fun a3 b3 _ d3 => ⟨⟨⟨⟨a2, b2, ⟨a3, b3, v, d3⟩, d2⟩, b1, c1, d1⟩, b0, c0, d0⟩, hi⟩) c2) a1) a0) lo) fr
noncomputable def s11 (v : FV) (fr : Fr) : Fr := Fr.rec (fun lo hi => Q.rec (fun a0 b0 c0 d0 => Q.rec (fun a1 b1 c1 d1 => Q.rec (fun a2 b2 c2 d2 => Q.rec (fun a3 b3 c3 _ => ⟨⟨⟨⟨a2, b2, ⟨a3, b3, c3, v⟩, d2⟩, b1, c1, d1⟩, b0, c0, d0⟩, hi⟩) c2) a1) a0) lo) fr
noncomputable def s12 (v : FV) (fr : Fr) : Fr := Fr.rec (fun lo hi => Q.rec (fun a0 b0 c0 d0 => Q.rec (fun a1 b1 c1 d1 => Q.rec (fun a2 b2 c2 d2 => Q.rec (fun _ b3 c3 d3 => ⟨⟨⟨⟨a2, b2, c2, ⟨v, b3, c3, d3⟩⟩, b1, c1, d1⟩, b0, c0, d0⟩, hi⟩) d2) a1) a0) lo) fr
noncomputable def s13 (v : FV) (fr : Fr) : Fr := Fr.rec (fun lo hi => Q.rec (fun a0 b0 c0 d0 => Q.rec (fun a1 b1 c1 d1 => Q.rec (fun a2 b2 c2 d2 => Q.rec (fun a3 _ c3 d3 => ⟨⟨⟨⟨a2, b2, c2, ⟨a3, v, c3, d3⟩⟩, b1, c1, d1⟩, b0, c0, d0⟩, hi⟩) d2) a1) a0) lo) fr
noncomputable def s14 (v : FV) (fr : Fr) : Fr := Fr.rec (fun lo hi => Q.rec (fun a0 b0 c0 d0 => Q.rec (fun a1 b1 c1 d1 => Q.rec (fun a2 b2 c2 d2 => Q.rec (fun a3 b3 _ d3 => ⟨⟨⟨⟨a2, b2, c2, ⟨a3, b3, v, d3⟩⟩, b1, c1, d1⟩, b0, c0, d0⟩, hi⟩) d2) a1) a0) lo) fr
noncomputable def s15 (v : FV) (fr : Fr) : Fr := Fr.rec (fun lo hi => Q.rec (fun a0 b0 c0 d0 => Q.rec (fun a1 b1 c1 d1 => Q.rec (fun a2 b2 c2 d2 => Q.rec (fun a3 b3 c3 _ => ⟨⟨⟨⟨a2, b2, c2, ⟨a3, b3, c3, v⟩⟩, b1, c1, d1⟩, b0, c0, d0⟩, hi⟩) d2) a1) a0) lo) fr
noncomputable def s16 (v : FV) (fr : Fr) : Fr := Fr.rec (fun lo hi => Q.rec (fun a0 b0 c0 d0 => Q.rec (fun a1 b1 c1 d1 => Q.rec (fun a2 b2 c2 d2 => Q.rec (fun _ b3 c3 d3 => ⟨⟨⟨a1, ⟨⟨v, b3, c3, d3⟩, b2, c2, d2⟩, c1, d1⟩, b0, c0, d0⟩, hi⟩) a2) b1) a0) lo) fr
noncomputable def s17 (v : FV) (fr : Fr) : Fr := Fr.rec (fun lo hi => Q.rec (fun a0 b0 c0 d0 => Q.rec (fun a1 b1 c1 d1 => Q.rec (fun a2 b2 c2 d2 => Q.rec (fun a3 _ c3 d3 => ⟨⟨⟨a1, ⟨⟨a3, v, c3, d3⟩, b2, c2, d2⟩, c1, d1⟩, b0, c0, d0⟩, hi⟩) a2) b1) a0) lo) fr
noncomputable def s18 (v : FV) (fr : Fr) : Fr := Fr.rec (fun lo hi => Q.rec (fun a0 b0 c0 d0 => Q.rec (fun a1 b1 c1 d1 => Q.rec (fun a2 b2 c2 d2 => Q.rec (fun a3 b3 _ d3 => ⟨⟨⟨a1, ⟨⟨a3, b3, v, d3⟩, b2, c2, d2⟩, c1, d1⟩, b0, c0, d0⟩, hi⟩) a2) b1) a0) lo) fr
noncomputable def s19 (v : FV) (fr : Fr) : Fr := Fr.rec (fun lo hi => Q.rec (fun a0 b0 c0 d0 => Q.rec (fun a1 b1 c1 d1 => Q.rec (fun a2 b2 c2 d2 => Q.rec (fun a3 b3 c3 _ => ⟨⟨⟨a1, ⟨⟨a3, b3, c3, v⟩, b2, c2, d2⟩, c1, d1⟩, b0, c0, d0⟩, hi⟩) a2) b1) a0) lo) fr
noncomputable def s20 (v : FV) (fr : Fr) : Fr := Fr.rec (fun lo hi => Q.rec (fun a0 b0 c0 d0 => Q.rec (fun a1 b1 c1 d1 => Q.rec (fun a2 b2 c2 d2 => Q.rec (fun _ b3 c3 d3 => ⟨⟨⟨a1, ⟨a2, ⟨v, b3, c3, d3⟩, c2, d2⟩, c1, d1⟩, b0, c0, d0⟩, hi⟩) b2) b1) a0) lo) fr
noncomputable def s21 (v : FV) (fr : Fr) : Fr := Fr.rec (fun lo hi => Q.rec (fun a0 b0 c0 d0 => Q.rec (fun a1 b1 c1 d1 => Q.rec (fun a2 b2 c2 d2 => Q.rec (fun a3 _ c3 d3 => ⟨⟨⟨a1, ⟨a2, ⟨a3, v, c3, d3⟩, c2, d2⟩, c1, d1⟩, b0, c0, d0⟩, hi⟩) b2) b1) a0) lo) fr
noncomputable def s22 (v : FV) (fr : Fr) : Fr := Fr.rec (fun lo hi => Q.rec (fun a0 b0 c0 d0 => Q.rec (fun a1 b1 c1 d1 => Q.rec (fun a2 b2 c2 d2 => Q.rec (fun a3 b3 _ d3 => ⟨⟨⟨a1, ⟨a2, ⟨a3, b3, v, d3⟩, c2, d2⟩, c1, d1⟩, b0, c0, d0⟩, hi⟩) b2) b1) a0) lo) fr
noncomputable def s23 (v : FV) (fr : Fr) : Fr := Fr.rec (fun lo hi => Q.rec (fun a0 b0 c0 d0 => Q.rec (fun a1 b1 c1 d1 => Q.rec (fun a2 b2 c2 d2 => Q.rec (fun a3 b3 c3 _ => ⟨⟨⟨a1, ⟨a2, ⟨a3, b3, c3, v⟩, c2, d2⟩, c1, d1⟩, b0, c0, d0⟩, hi⟩) b2) b1) a0) lo) fr
noncomputable def s24 (v : FV) (fr : Fr) : Fr := Fr.rec (fun lo hi => Q.rec (fun a0 b0 c0 d0 => Q.rec (fun a1 b1 c1 d1 => Q.rec (fun a2 b2 c2 d2 => Q.rec (fun _ b3 c3 d3 => ⟨⟨⟨a1, ⟨a2, b2, ⟨v, b3, c3, d3⟩, d2⟩, c1, d1⟩, b0, c0, d0⟩, hi⟩) c2) b1) a0) lo) fr
noncomputable def s25 (v : FV) (fr : Fr) : Fr := Fr.rec (fun lo hi => Q.rec (fun a0 b0 c0 d0 => Q.rec (fun a1 b1 c1 d1 => Q.rec (fun a2 b2 c2 d2 => Q.rec (fun a3 _ c3 d3 => ⟨⟨⟨a1, ⟨a2, b2, ⟨a3, v, c3, d3⟩, d2⟩, c1, d1⟩, b0, c0, d0⟩, hi⟩) c2) b1) a0) lo) fr
noncomputable def s26 (v : FV) (fr : Fr) : Fr := Fr.rec (fun lo hi => Q.rec (fun a0 b0 c0 d0 => Q.rec (fun a1 b1 c1 d1 => Q.rec (fun a2 b2 c2 d2 => Q.rec (fun a3 b3 _ d3 => ⟨⟨⟨a1, ⟨a2, b2, ⟨a3, b3, v, d3⟩, d2⟩, c1, d1⟩, b0, c0, d0⟩, hi⟩) c2) b1) a0) lo) fr
noncomputable def s27 (v : FV) (fr : Fr) : Fr := Fr.rec (fun lo hi => Q.rec (fun a0 b0 c0 d0 => Q.rec (fun a1 b1 c1 d1 => Q.rec (fun a2 b2 c2 d2 => Q.rec (fun a3 b3 c3 _ => ⟨⟨⟨a1, ⟨a2, b2, ⟨a3, b3, c3, v⟩, d2⟩, c1, d1⟩, b0, c0, d0⟩, hi⟩) c2) b1) a0) lo) fr
noncomputable def s28 (v : FV) (fr : Fr) : Fr := Fr.rec (fun lo hi => Q.rec (fun a0 b0 c0 d0 => Q.rec (fun a1 b1 c1 d1 => Q.rec (fun a2 b2 c2 d2 => Q.rec (fun _ b3 c3 d3 => ⟨⟨⟨a1, ⟨a2, b2, c2, ⟨v, b3, c3, d3⟩⟩, c1, d1⟩, b0, c0, d0⟩, hi⟩) d2) b1) a0) lo) fr
noncomputable def s29 (v : FV) (fr : Fr) : Fr := Fr.rec (fun lo hi => Q.rec (fun a0 b0 c0 d0 => Q.rec (fun a1 b1 c1 d1 => Q.rec (fun a2 b2 c2 d2 => Q.rec (fun a3 _ c3 d3 => ⟨⟨⟨a1, ⟨a2, b2, c2, ⟨a3, v, c3, d3⟩⟩, c1, d1⟩, b0, c0, d0⟩, hi⟩) d2) b1) a0) lo) fr
noncomputable def s30 (v : FV) (fr : Fr) : Fr := Fr.rec (fun lo hi => Q.rec (fun a0 b0 c0 d0 => Q.rec (fun a1 b1 c1 d1 => Q.rec (fun a2 b2 c2 d2 => Q.rec (fun a3 b3 _ d3 => ⟨⟨⟨a1, ⟨a2, b2, c2, ⟨a3, b3, v, d3⟩⟩, c1, d1⟩, b0, c0, d0⟩, hi⟩) d2) b1) a0) lo) fr
noncomputable def s31 (v : FV) (fr : Fr) : Fr := Fr.rec (fun lo hi => Q.rec (fun a0 b0 c0 d0 => Q.rec (fun a1 b1 c1 d1 => Q.rec (fun a2 b2 c2 d2 => Q.rec (fun a3 b3 c3 _ => ⟨⟨⟨a1, ⟨a2, b2, c2, ⟨a3, b3, c3, v⟩⟩, c1, d1⟩, b0, c0, d0⟩, hi⟩) d2) b1) a0) lo) fr
noncomputable def s32 (v : FV) (fr : Fr) : Fr := Fr.rec (fun lo hi => Q.rec (fun a0 b0 c0 d0 => Q.rec (fun a1 b1 c1 d1 => Q.rec (fun a2 b2 c2 d2 => Q.rec (fun _ b3 c3 d3 => ⟨⟨⟨a1, b1, ⟨⟨v, b3, c3, d3⟩, b2, c2, d2⟩, d1⟩, b0, c0, d0⟩, hi⟩) a2) c1) a0) lo) fr
noncomputable def s33 (v : FV) (fr : Fr) : Fr := Fr.rec (fun lo hi => Q.rec (fun a0 b0 c0 d0 => Q.rec (fun a1 b1 c1 d1 => Q.rec (fun a2 b2 c2 d2 => Q.rec (fun a3 _ c3 d3 => ⟨⟨⟨a1, b1, ⟨⟨a3, v, c3, d3⟩, b2, c2, d2⟩, d1⟩, b0, c0, d0⟩, hi⟩) a2) c1) a0) lo) fr
noncomputable def s34 (v : FV) (fr : Fr) : Fr := Fr.rec (fun lo hi => Q.rec (fun a0 b0 c0 d0 => Q.rec (fun a1 b1 c1 d1 => Q.rec (fun a2 b2 c2 d2 => Q.rec (fun a3 b3 _ d3 => ⟨⟨⟨a1, b1, ⟨⟨a3, b3, v, d3⟩, b2, c2, d2⟩, d1⟩, b0, c0, d0⟩, hi⟩) a2) c1) a0) lo) fr
noncomputable def s35 (v : FV) (fr : Fr) : Fr := Fr.rec (fun lo hi => Q.rec (fun a0 b0 c0 d0 => Q.rec (fun a1 b1 c1 d1 => Q.rec (fun a2 b2 c2 d2 => Q.rec (fun a3 b3 c3 _ => ⟨⟨⟨a1, b1, ⟨⟨a3, b3, c3, v⟩, b2, c2, d2⟩, d1⟩, b0, c0, d0⟩, hi⟩) a2) c1) a0) lo) fr
noncomputable def s36 (v : FV) (fr : Fr) : Fr := Fr.rec (fun lo hi => Q.rec (fun a0 b0 c0 d0 => Q.rec (fun a1 b1 c1 d1 => Q.rec (fun a2 b2 c2 d2 => Q.rec (fun _ b3 c3 d3 => ⟨⟨⟨a1, b1, ⟨a2, ⟨v, b3, c3, d3⟩, c2, d2⟩, d1⟩, b0, c0, d0⟩, hi⟩) b2) c1) a0) lo) fr
noncomputable def s37 (v : FV) (fr : Fr) : Fr := Fr.rec (fun lo hi => Q.rec (fun a0 b0 c0 d0 => Q.rec (fun a1 b1 c1 d1 => Q.rec (fun a2 b2 c2 d2 => Q.rec (fun a3 _ c3 d3 => ⟨⟨⟨a1, b1, ⟨a2, ⟨a3, v, c3, d3⟩, c2, d2⟩, d1⟩, b0, c0, d0⟩, hi⟩) b2) c1) a0) lo) fr
noncomputable def s38 (v : FV) (fr : Fr) : Fr := Fr.rec (fun lo hi => Q.rec (fun a0 b0 c0 d0 => Q.rec (fun a1 b1 c1 d1 => Q.rec (fun a2 b2 c2 d2 => Q.rec (fun a3 b3 _ d3 => ⟨⟨⟨a1, b1, ⟨a2, ⟨a3, b3, v, d3⟩, c2, d2⟩, d1⟩, b0, c0, d0⟩, hi⟩) b2) c1) a0) lo) fr
noncomputable def s39 (v : FV) (fr : Fr) : Fr := Fr.rec (fun lo hi => Q.rec (fun a0 b0 c0 d0 => Q.rec (fun a1 b1 c1 d1 => Q.rec (fun a2 b2 c2 d2 => Q.rec (fun a3 b3 c3 _ => ⟨⟨⟨a1, b1, ⟨a2, ⟨a3, b3, c3, v⟩, c2, d2⟩, d1⟩, b0, c0, d0⟩, hi⟩) b2) c1) a0) lo) fr
noncomputable def s40 (v : FV) (fr : Fr) : Fr := Fr.rec (fun lo hi => Q.rec (fun a0 b0 c0 d0 => Q.rec (fun a1 b1 c1 d1 => Q.rec (fun a2 b2 c2 d2 => Q.rec (fun _ b3 c3 d3 => ⟨⟨⟨a1, b1, ⟨a2, b2, ⟨v, b3, c3, d3⟩, d2⟩, d1⟩, b0, c0, d0⟩, hi⟩) c2) c1) a0) lo) fr
noncomputable def s41 (v : FV) (fr : Fr) : Fr := Fr.rec (fun lo hi => Q.rec (fun a0 b0 c0 d0 => Q.rec (fun a1 b1 c1 d1 => Q.rec (fun a2 b2 c2 d2 => Q.rec (fun a3 _ c3 d3 => ⟨⟨⟨a1, b1, ⟨a2, b2, ⟨a3, v, c3, d3⟩, d2⟩, d1⟩, b0, c0, d0⟩, hi⟩) c2) c1) a0) lo) fr
noncomputable def s42 (v : FV) (fr : Fr) : Fr := Fr.rec (fun lo hi => Q.rec (fun a0 b0 c0 d0 => Q.rec (fun a1 b1 c1 d1 => Q.rec (fun a2 b2 c2 d2 => Q.rec (fun a3 b3 _ d3 => ⟨⟨⟨a1, b1, ⟨a2, b2, ⟨a3, b3, v, d3⟩, d2⟩, d1⟩, b0, c0, d0⟩, hi⟩) c2) c1) a0) lo) fr
noncomputable def s43 (v : FV) (fr : Fr) : Fr := Fr.rec (fun lo hi => Q.rec (fun a0 b0 c0 d0 => Q.rec (fun a1 b1 c1 d1 => Q.rec (fun a2 b2 c2 d2 => Q.rec (fun a3 b3 c3 _ => ⟨⟨⟨a1, b1, ⟨a2, b2, ⟨a3, b3, c3, v⟩, d2⟩, d1⟩, b0, c0, d0⟩, hi⟩) c2) c1) a0) lo) fr
noncomputable def s44 (v : FV) (fr : Fr) : Fr := Fr.rec (fun lo hi => Q.rec (fun a0 b0 c0 d0 => Q.rec (fun a1 b1 c1 d1 => Q.rec (fun a2 b2 c2 d2 => Q.rec (fun _ b3 c3 d3 => ⟨⟨⟨a1, b1, ⟨a2, b2, c2, ⟨v, b3, c3, d3⟩⟩, d1⟩, b0, c0, d0⟩, hi⟩) d2) c1) a0) lo) fr
noncomputable def s45 (v : FV) (fr : Fr) : Fr := Fr.rec (fun lo hi => Q.rec (fun a0 b0 c0 d0 => Q.rec (fun a1 b1 c1 d1 => Q.rec (fun a2 b2 c2 d2 => Q.rec (fun a3 _ c3 d3 => ⟨⟨⟨a1, b1, ⟨a2, b2, c2, ⟨a3, v, c3, d3⟩⟩, d1⟩, b0, c0, d0⟩, hi⟩) d2) c1) a0) lo) fr
noncomputable def s46 (v : FV) (fr : Fr) : Fr := Fr.rec (fun lo hi => Q.rec (fun a0 b0 c0 d0 => Q.rec (fun a1 b1 c1 d1 => Q.rec (fun a2 b2 c2 d2 => Q.rec (fun a3 b3 _ d3 => ⟨⟨⟨a1, b1, ⟨a2, b2, c2, ⟨a3, b3, v, d3⟩⟩, d1⟩, b0, c0, d0⟩, hi⟩) d2) c1) a0) lo) fr
noncomputable def s47 (v : FV) (fr : Fr) : Fr := Fr.rec (fun lo hi => Q.rec (fun a0 b0 c0 d0 => Q.rec (fun a1 b1 c1 d1 => Q.rec (fun a2 b2 c2 d2 => Q.rec (fun a3 b3 c3 _ => ⟨⟨⟨a1, b1, ⟨a2, b2, c2, ⟨a3, b3, c3, v⟩⟩, d1⟩, b0, c0, d0⟩, hi⟩) d2) c1) a0) lo) fr
noncomputable def s48 (v : FV) (fr : Fr) : Fr := Fr.rec (fun lo hi => Q.rec (fun a0 b0 c0 d0 => Q.rec (fun a1 b1 c1 d1 => Q.rec (fun a2 b2 c2 d2 => Q.rec (fun _ b3 c3 d3 => ⟨⟨⟨a1, b1, c1, ⟨⟨v, b3, c3, d3⟩, b2, c2, d2⟩⟩, b0, c0, d0⟩, hi⟩) a2) d1) a0) lo) fr
noncomputable def s49 (v : FV) (fr : Fr) : Fr := Fr.rec (fun lo hi => Q.rec (fun a0 b0 c0 d0 => Q.rec (fun a1 b1 c1 d1 => Q.rec (fun a2 b2 c2 d2 => Q.rec (fun a3 _ c3 d3 => ⟨⟨⟨a1, b1, c1, ⟨⟨a3, v, c3, d3⟩, b2, c2, d2⟩⟩, b0, c0, d0⟩, hi⟩) a2) d1) a0) lo) fr
noncomputable def s50 (v : FV) (fr : Fr) : Fr := Fr.rec (fun lo hi => Q.rec (fun a0 b0 c0 d0 => Q.rec (fun a1 b1 c1 d1 => Q.rec (fun a2 b2 c2 d2 => Q.rec (fun a3 b3 _ d3 => ⟨⟨⟨a1, b1, c1, ⟨⟨a3, b3, v, d3⟩, b2, c2, d2⟩⟩, b0, c0, d0⟩, hi⟩) a2) d1) a0) lo) fr
noncomputable def s51 (v : FV) (fr : Fr) : Fr := Fr.rec (fun lo hi => Q.rec (fun a0 b0 c0 d0 => Q.rec (fun a1 b1 c1 d1 => Q.rec (fun a2 b2 c2 d2 => Q.rec (fun a3 b3 c3 _ => ⟨⟨⟨a1, b1, c1, ⟨⟨a3, b3, c3, v⟩, b2, c2, d2⟩⟩, b0, c0, d0⟩, hi⟩) a2) d1) a0) lo) fr
noncomputable def s52 (v : FV) (fr : Fr) : Fr := Fr.rec (fun lo hi => Q.rec (fun a0 b0 c0 d0 => Q.rec (fun a1 b1 c1 d1 => Q.rec (fun a2 b2 c2 d2 => Q.rec (fun _ b3 c3 d3 => ⟨⟨⟨a1, b1, c1, ⟨a2, ⟨v, b3, c3, d3⟩, c2, d2⟩⟩, b0, c0, d0⟩, hi⟩) b2) d1) a0) lo) fr
noncomputable def s53 (v : FV) (fr : Fr) : Fr := Fr.rec (fun lo hi => Q.rec (fun a0 b0 c0 d0 => Q.rec (fun a1 b1 c1 d1 => Q.rec (fun a2 b2 c2 d2 => Q.rec (fun a3 _ c3 d3 => ⟨⟨⟨a1, b1, c1, ⟨a2, ⟨a3, v, c3, d3⟩, c2, d2⟩⟩, b0, c0, d0⟩, hi⟩) b2) d1) a0) lo) fr
noncomputable def s54 (v : FV) (fr : Fr) : Fr := Fr.rec (fun lo hi => Q.rec (fun a0 b0 c0 d0 => Q.rec (fun a1 b1 c1 d1 => Q.rec (fun a2 b2 c2 d2 => Q.rec (fun a3 b3 _ d3 => ⟨⟨⟨a1, b1, c1, ⟨a2, ⟨a3, b3, v, d3⟩, c2, d2⟩⟩, b0, c0, d0⟩, hi⟩) b2) d1) a0) lo) fr
noncomputable def s55 (v : FV) (fr : Fr) : Fr := Fr.rec (fun lo hi => Q.rec (fun a0 b0 c0 d0 => Q.rec (fun a1 b1 c1 d1 => Q.rec (fun a2 b2 c2 d2 => Q.rec (fun a3 b3 c3 _ => ⟨⟨⟨a1, b1, c1, ⟨a2, ⟨a3, b3, c3, v⟩, c2, d2⟩⟩, b0, c0, d0⟩, hi⟩) b2) d1) a0) lo) fr
noncomputable def s56 (v : FV) (fr : Fr) : Fr := Fr.rec (fun lo hi => Q.rec (fun a0 b0 c0 d0 => Q.rec (fun a1 b1 c1 d1 => Q.rec (fun a2 b2 c2 d2 => Q.rec (fun _ b3 c3 d3 => ⟨⟨⟨a1, b1, c1, ⟨a2, b2, ⟨v, b3, c3, d3⟩, d2⟩⟩, b0, c0, d0⟩, hi⟩) c2) d1) a0) lo) fr
noncomputable def s57 (v : FV) (fr : Fr) : Fr := Fr.rec (fun lo hi => Q.rec (fun a0 b0 c0 d0 => Q.rec (fun a1 b1 c1 d1 => Q.rec (fun a2 b2 c2 d2 => Q.rec (fun a3 _ c3 d3 => ⟨⟨⟨a1, b1, c1, ⟨a2, b2, ⟨a3, v, c3, d3⟩, d2⟩⟩, b0, c0, d0⟩, hi⟩) c2) d1) a0) lo) fr
noncomputable def s58 (v : FV) (fr : Fr) : Fr := Fr.rec (fun lo hi => Q.rec (fun a0 b0 c0 d0 => Q.rec (fun a1 b1 c1 d1 => Q.rec (fun a2 b2 c2 d2 => Q.rec (fun a3 b3 _ d3 => ⟨⟨⟨a1, b1, c1, ⟨a2, b2, ⟨a3, b3, v, d3⟩, d2⟩⟩, b0, c0, d0⟩, hi⟩) c2) d1) a0) lo) fr
noncomputable def s59 (v : FV) (fr : Fr) : Fr := Fr.rec (fun lo hi => Q.rec (fun a0 b0 c0 d0 => Q.rec (fun a1 b1 c1 d1 => Q.rec (fun a2 b2 c2 d2 => Q.rec (fun a3 b3 c3 _ => ⟨⟨⟨a1, b1, c1, ⟨a2, b2, ⟨a3, b3, c3, v⟩, d2⟩⟩, b0, c0, d0⟩, hi⟩) c2) d1) a0) lo) fr
noncomputable def s60 (v : FV) (fr : Fr) : Fr := Fr.rec (fun lo hi => Q.rec (fun a0 b0 c0 d0 => Q.rec (fun a1 b1 c1 d1 => Q.rec (fun a2 b2 c2 d2 => Q.rec (fun _ b3 c3 d3 => ⟨⟨⟨a1, b1, c1, ⟨a2, b2, c2, ⟨v, b3, c3, d3⟩⟩⟩, b0, c0, d0⟩, hi⟩) d2) d1) a0) lo) fr
noncomputable def s61 (v : FV) (fr : Fr) : Fr := Fr.rec (fun lo hi => Q.rec (fun a0 b0 c0 d0 => Q.rec (fun a1 b1 c1 d1 => Q.rec (fun a2 b2 c2 d2 => Q.rec (fun a3 _ c3 d3 => ⟨⟨⟨a1, b1, c1, ⟨a2, b2, c2, ⟨a3, v, c3, d3⟩⟩⟩, b0, c0, d0⟩, hi⟩) d2) d1) a0) lo) fr
noncomputable def s62 (v : FV) (fr : Fr) : Fr := Fr.rec (fun lo hi => Q.rec (fun a0 b0 c0 d0 => Q.rec (fun a1 b1 c1 d1 => Q.rec (fun a2 b2 c2 d2 => Q.rec (fun a3 b3 _ d3 => ⟨⟨⟨a1, b1, c1, ⟨a2, b2, c2, ⟨a3, b3, v, d3⟩⟩⟩, b0, c0, d0⟩, hi⟩) d2) d1) a0) lo) fr
noncomputable def s63 (v : FV) (fr : Fr) : Fr := Fr.rec (fun lo hi => Q.rec (fun a0 b0 c0 d0 => Q.rec (fun a1 b1 c1 d1 => Q.rec (fun a2 b2 c2 d2 => Q.rec (fun a3 b3 c3 _ => ⟨⟨⟨a1, b1, c1, ⟨a2, b2, c2, ⟨a3, b3, c3, v⟩⟩⟩, b0, c0, d0⟩, hi⟩) d2) d1) a0) lo) fr
noncomputable def s64 (v : FV) (fr : Fr) : Fr := Fr.rec (fun lo hi => Q.rec (fun a0 b0 c0 d0 => Q.rec (fun a1 b1 c1 d1 => Q.rec (fun a2 b2 c2 d2 => Q.rec (fun _ b3 c3 d3 => ⟨⟨a0, ⟨⟨⟨v, b3, c3, d3⟩, b2, c2, d2⟩, b1, c1, d1⟩, c0, d0⟩, hi⟩) a2) a1) b0) lo) fr
noncomputable def s65 (v : FV) (fr : Fr) : Fr := Fr.rec (fun lo hi => Q.rec (fun a0 b0 c0 d0 => Q.rec (fun a1 b1 c1 d1 => Q.rec (fun a2 b2 c2 d2 => Q.rec (fun a3 _ c3 d3 => ⟨⟨a0, ⟨⟨⟨a3, v, c3, d3⟩, b2, c2, d2⟩, b1, c1, d1⟩, c0, d0⟩, hi⟩) a2) a1) b0) lo) fr
noncomputable def s66 (v : FV) (fr : Fr) : Fr := Fr.rec (fun lo hi => Q.rec (fun a0 b0 c0 d0 => Q.rec (fun a1 b1 c1 d1 => Q.rec (fun a2 b2 c2 d2 => Q.rec (fun a3 b3 _ d3 => ⟨⟨a0, ⟨⟨⟨a3, b3, v, d3⟩, b2, c2, d2⟩, b1, c1, d1⟩, c0, d0⟩, hi⟩) a2) a1) b0) lo) fr
noncomputable def s67 (v : FV) (fr : Fr) : Fr := Fr.rec (fun lo hi => Q.rec (fun a0 b0 c0 d0 => Q.rec (fun a1 b1 c1 d1 => Q.rec (fun a2 b2 c2 d2 => Q.rec (fun a3 b3 c3 _ => ⟨⟨a0, ⟨⟨⟨a3, b3, c3, v⟩, b2, c2, d2⟩, b1, c1, d1⟩, c0, d0⟩, hi⟩) a2) a1) b0) lo) fr
noncomputable def s68 (v : FV) (fr : Fr) : Fr := Fr.rec (fun lo hi => Q.rec (fun a0 b0 c0 d0 => Q.rec (fun a1 b1 c1 d1 => Q.rec (fun a2 b2 c2 d2 => Q.rec (fun _ b3 c3 d3 => ⟨⟨a0, ⟨⟨a2, ⟨v, b3, c3, d3⟩, c2, d2⟩, b1, c1, d1⟩, c0, d0⟩, hi⟩) b2) a1) b0) lo) fr
noncomputable def s69 (v : FV) (fr : Fr) : Fr := Fr.rec (fun lo hi => Q.rec (fun a0 b0 c0 d0 => Q.rec (fun a1 b1 c1 d1 => Q.rec (fun a2 b2 c2 d2 => Q.rec (fun a3 _ c3 d3 => ⟨⟨a0, ⟨⟨a2, ⟨a3, v, c3, d3⟩, c2, d2⟩, b1, c1, d1⟩, c0, d0⟩, hi⟩) b2) a1) b0) lo) fr
noncomputable def s70 (v : FV) (fr : Fr) : Fr := Fr.rec (fun lo hi => Q.rec (fun a0 b0 c0 d0 => Q.rec (fun a1 b1 c1 d1 => Q.rec (fun a2 b2 c2 d2 => Q.rec (fun a3 b3 _ d3 => ⟨⟨a0, ⟨⟨a2, ⟨a3, b3, v, d3⟩, c2, d2⟩, b1, c1, d1⟩, c0, d0⟩, hi⟩) b2) a1) b0) lo) fr
noncomputable def s71 (v : FV) (fr : Fr) : Fr := Fr.rec (fun lo hi => Q.rec (fun a0 b0 c0 d0 => Q.rec (fun a1 b1 c1 d1 => Q.rec (fun a2 b2 c2 d2 => Q.rec (fun a3 b3 c3 _ => ⟨⟨a0, ⟨⟨a2, ⟨a3, b3, c3, v⟩, c2, d2⟩, b1, c1, d1⟩, c0, d0⟩, hi⟩) b2) a1) b0) lo) fr
noncomputable def s72 (v : FV) (fr : Fr) : Fr := Fr.rec (fun lo hi => Q.rec (fun a0 b0 c0 d0 => Q.rec (fun a1 b1 c1 d1 => Q.rec (fun a2 b2 c2 d2 => Q.rec (fun _ b3 c3 d3 => ⟨⟨a0, ⟨⟨a2, b2, ⟨v, b3, c3, d3⟩, d2⟩, b1, c1, d1⟩, c0, d0⟩, hi⟩) c2) a1) b0) lo) fr
noncomputable def s73 (v : FV) (fr : Fr) : Fr := Fr.rec (fun lo hi => Q.rec (fun a0 b0 c0 d0 => Q.rec (fun a1 b1 c1 d1 => Q.rec (fun a2 b2 c2 d2 => Q.rec (fun a3 _ c3 d3 => ⟨⟨a0, ⟨⟨a2, b2, ⟨a3, v, c3, d3⟩, d2⟩, b1, c1, d1⟩, c0, d0⟩, hi⟩) c2) a1) b0) lo) fr
noncomputable def s74 (v : FV) (fr : Fr) : Fr := Fr.rec (fun lo hi => Q.rec (fun a0 b0 c0 d0 => Q.rec (fun a1 b1 c1 d1 => Q.rec (fun a2 b2 c2 d2 => Q.rec (fun a3 b3 _ d3 => ⟨⟨a0, ⟨⟨a2, b2, ⟨a3, b3, v, d3⟩, d2⟩, b1, c1, d1⟩, c0, d0⟩, hi⟩) c2) a1) b0) lo) fr
noncomputable def s75 (v : FV) (fr : Fr) : Fr := Fr.rec (fun lo hi => Q.rec (fun a0 b0 c0 d0 => Q.rec (fun a1 b1 c1 d1 => Q.rec (fun a2 b2 c2 d2 => Q.rec (fun a3 b3 c3 _ => ⟨⟨a0, ⟨⟨a2, b2, ⟨a3, b3, c3, v⟩, d2⟩, b1, c1, d1⟩, c0, d0⟩, hi⟩) c2) a1) b0) lo) fr
noncomputable def s76 (v : FV) (fr : Fr) : Fr := Fr.rec (fun lo hi => Q.rec (fun a0 b0 c0 d0 => Q.rec (fun a1 b1 c1 d1 => Q.rec (fun a2 b2 c2 d2 => Q.rec (fun _ b3 c3 d3 => ⟨⟨a0, ⟨⟨a2, b2, c2, ⟨v, b3, c3, d3⟩⟩, b1, c1, d1⟩, c0, d0⟩, hi⟩) d2) a1) b0) lo) fr
noncomputable def s77 (v : FV) (fr : Fr) : Fr := Fr.rec (fun lo hi => Q.rec (fun a0 b0 c0 d0 => Q.rec (fun a1 b1 c1 d1 => Q.rec (fun a2 b2 c2 d2 => Q.rec (fun a3 _ c3 d3 => ⟨⟨a0, ⟨⟨a2, b2, c2, ⟨a3, v, c3, d3⟩⟩, b1, c1, d1⟩, c0, d0⟩, hi⟩) d2) a1) b0) lo) fr
noncomputable def s78 (v : FV) (fr : Fr) : Fr := Fr.rec (fun lo hi => Q.rec (fun a0 b0 c0 d0 => Q.rec (fun a1 b1 c1 d1 => Q.rec (fun a2 b2 c2 d2 => Q.rec (fun a3 b3 _ d3 => ⟨⟨a0, ⟨⟨a2, b2, c2, ⟨a3, b3, v, d3⟩⟩, b1, c1, d1⟩, c0, d0⟩, hi⟩) d2) a1) b0) lo) fr
noncomputable def s79 (v : FV) (fr : Fr) : Fr := Fr.rec (fun lo hi => Q.rec (fun a0 b0 c0 d0 => Q.rec (fun a1 b1 c1 d1 => Q.rec (fun a2 b2 c2 d2 => Q.rec (fun a3 b3 c3 _ => ⟨⟨a0, ⟨⟨a2, b2, c2, ⟨a3, b3, c3, v⟩⟩, b1, c1, d1⟩, c0, d0⟩, hi⟩) d2) a1) b0) lo) fr
noncomputable def s80 (v : FV) (fr : Fr) : Fr := Fr.rec (fun lo hi => Q.rec (fun a0 b0 c0 d0 => Q.rec (fun a1 b1 c1 d1 => Q.rec (fun a2 b2 c2 d2 => Q.rec (fun _ b3 c3 d3 => ⟨⟨a0, ⟨a1, ⟨⟨v, b3, c3, d3⟩, b2, c2, d2⟩, c1, d1⟩, c0, d0⟩, hi⟩) a2) b1) b0) lo) fr
noncomputable def s81 (v : FV) (fr : Fr) : Fr := Fr.rec (fun lo hi => Q.rec (fun a0 b0 c0 d0 => Q.rec (fun a1 b1 c1 d1 => Q.rec (fun a2 b2 c2 d2 => Q.rec (fun a3 _ c3 d3 => ⟨⟨a0, ⟨a1, ⟨⟨a3, v, c3, d3⟩, b2, c2, d2⟩, c1, d1⟩, c0, d0⟩, hi⟩) a2) b1) b0) lo) fr
noncomputable def s82 (v : FV) (fr : Fr) : Fr := Fr.rec (fun lo hi => Q.rec (fun a0 b0 c0 d0 => Q.rec (fun a1 b1 c1 d1 => Q.rec (fun a2 b2 c2 d2 => Q.rec (fun a3 b3 _ d3 => ⟨⟨a0, ⟨a1, ⟨⟨a3, b3, v, d3⟩, b2, c2, d2⟩, c1, d1⟩, c0, d0⟩, hi⟩) a2) b1) b0) lo) fr
noncomputable def s83 (v : FV) (fr : Fr) : Fr := Fr.rec (fun lo hi => Q.rec (fun a0 b0 c0 d0 => Q.rec (fun a1 b1 c1 d1 => Q.rec (fun a2 b2 c2 d2 => Q.rec (fun a3 b3 c3 _ => ⟨⟨a0, ⟨a1, ⟨⟨a3, b3, c3, v⟩, b2, c2, d2⟩, c1, d1⟩, c0, d0⟩, hi⟩) a2) b1) b0) lo) fr
noncomputable def s84 (v : FV) (fr : Fr) : Fr := Fr.rec (fun lo hi => Q.rec (fun a0 b0 c0 d0 => Q.rec (fun a1 b1 c1 d1 => Q.rec (fun a2 b2 c2 d2 => Q.rec (fun _ b3 c3 d3 => ⟨⟨a0, ⟨a1, ⟨a2, ⟨v, b3, c3, d3⟩, c2, d2⟩, c1, d1⟩, c0, d0⟩, hi⟩) b2) b1) b0) lo) fr
noncomputable def s85 (v : FV) (fr : Fr) : Fr := Fr.rec (fun lo hi => Q.rec (fun a0 b0 c0 d0 => Q.rec (fun a1 b1 c1 d1 => Q.rec (fun a2 b2 c2 d2 => Q.rec (fun a3 _ c3 d3 => ⟨⟨a0, ⟨a1, ⟨a2, ⟨a3, v, c3, d3⟩, c2, d2⟩, c1, d1⟩, c0, d0⟩, hi⟩) b2) b1) b0) lo) fr
noncomputable def s86 (v : FV) (fr : Fr) : Fr := Fr.rec (fun lo hi => Q.rec (fun a0 b0 c0 d0 => Q.rec (fun a1 b1 c1 d1 => Q.rec (fun a2 b2 c2 d2 => Q.rec (fun a3 b3 _ d3 => ⟨⟨a0, ⟨a1, ⟨a2, ⟨a3, b3, v, d3⟩, c2, d2⟩, c1, d1⟩, c0, d0⟩, hi⟩) b2) b1) b0) lo) fr
noncomputable def s87 (v : FV) (fr : Fr) : Fr := Fr.rec (fun lo hi => Q.rec (fun a0 b0 c0 d0 => Q.rec (fun a1 b1 c1 d1 => Q.rec (fun a2 b2 c2 d2 => Q.rec (fun a3 b3 c3 _ => ⟨⟨a0, ⟨a1, ⟨a2, ⟨a3, b3, c3, v⟩, c2, d2⟩, c1, d1⟩, c0, d0⟩, hi⟩) b2) b1) b0) lo) fr
noncomputable def s88 (v : FV) (fr : Fr) : Fr := Fr.rec (fun lo hi => Q.rec (fun a0 b0 c0 d0 => Q.rec (fun a1 b1 c1 d1 => Q.rec (fun a2 b2 c2 d2 => Q.rec (fun _ b3 c3 d3 => ⟨⟨a0, ⟨a1, ⟨a2, b2, ⟨v, b3, c3, d3⟩, d2⟩, c1, d1⟩, c0, d0⟩, hi⟩) c2) b1) b0) lo) fr
noncomputable def s89 (v : FV) (fr : Fr) : Fr := Fr.rec (fun lo hi => Q.rec (fun a0 b0 c0 d0 => Q.rec (fun a1 b1 c1 d1 => Q.rec (fun a2 b2 c2 d2 => Q.rec (fun a3 _ c3 d3 => ⟨⟨a0, ⟨a1, ⟨a2, b2, ⟨a3, v, c3, d3⟩, d2⟩, c1, d1⟩, c0, d0⟩, hi⟩) c2) b1) b0) lo) fr
noncomputable def s90 (v : FV) (fr : Fr) : Fr := Fr.rec (fun lo hi => Q.rec (fun a0 b0 c0 d0 => Q.rec (fun a1 b1 c1 d1 => Q.rec (fun a2 b2 c2 d2 => Q.rec (fun a3 b3 _ d3 => ⟨⟨a0, ⟨a1, ⟨a2, b2, ⟨a3, b3, v, d3⟩, d2⟩, c1, d1⟩, c0, d0⟩, hi⟩) c2) b1) b0) lo) fr
noncomputable def s91 (v : FV) (fr : Fr) : Fr := Fr.rec (fun lo hi => Q.rec (fun a0 b0 c0 d0 => Q.rec (fun a1 b1 c1 d1 => Q.rec (fun a2 b2 c2 d2 => Q.rec (fun a3 b3 c3 _ => ⟨⟨a0, ⟨a1, ⟨a2, b2, ⟨a3, b3, c3, v⟩, d2⟩, c1, d1⟩, c0, d0⟩, hi⟩) c2) b1) b0) lo) fr
noncomputable def s92 (v : FV) (fr : Fr) : Fr := Fr.rec (fun lo hi => Q.rec (fun a0 b0 c0 d0 => Q.rec (fun a1 b1 c1 d1 => Q.rec (fun a2 b2 c2 d2 => Q.rec (fun _ b3 c3 d3 => ⟨⟨a0, ⟨a1, ⟨a2, b2, c2, ⟨v, b3, c3, d3⟩⟩, c1, d1⟩, c0, d0⟩, hi⟩) d2) b1) b0) lo) fr
noncomputable def s93 (v : FV) (fr : Fr) : Fr := Fr.rec (fun lo hi => Q.rec (fun a0 b0 c0 d0 => Q.rec (fun a1 b1 c1 d1 => Q.rec (fun a2 b2 c2 d2 => Q.rec (fun a3 _ c3 d3 => ⟨⟨a0, ⟨a1, ⟨a2, b2, c2, ⟨a3, v, c3, d3⟩⟩, c1, d1⟩, c0, d0⟩, hi⟩) d2) b1) b0) lo) fr
noncomputable def s94 (v : FV) (fr : Fr) : Fr := Fr.rec (fun lo hi => Q.rec (fun a0 b0 c0 d0 => Q.rec (fun a1 b1 c1 d1 => Q.rec (fun a2 b2 c2 d2 => Q.rec (fun a3 b3 _ d3 => ⟨⟨a0, ⟨a1, ⟨a2, b2, c2, ⟨a3, b3, v, d3⟩⟩, c1, d1⟩, c0, d0⟩, hi⟩) d2) b1) b0) lo) fr
noncomputable def s95 (v : FV) (fr : Fr) : Fr := Fr.rec (fun lo hi => Q.rec (fun a0 b0 c0 d0 => Q.rec (fun a1 b1 c1 d1 => Q.rec (fun a2 b2 c2 d2 => Q.rec (fun a3 b3 c3 _ => ⟨⟨a0, ⟨a1, ⟨a2, b2, c2, ⟨a3, b3, c3, v⟩⟩, c1, d1⟩, c0, d0⟩, hi⟩) d2) b1) b0) lo) fr
noncomputable def s96 (v : FV) (fr : Fr) : Fr := Fr.rec (fun lo hi => Q.rec (fun a0 b0 c0 d0 => Q.rec (fun a1 b1 c1 d1 => Q.rec (fun a2 b2 c2 d2 => Q.rec (fun _ b3 c3 d3 => ⟨⟨a0, ⟨a1, b1, ⟨⟨v, b3, c3, d3⟩, b2, c2, d2⟩, d1⟩, c0, d0⟩, hi⟩) a2) c1) b0) lo) fr
noncomputable def s97 (v : FV) (fr : Fr) : Fr := Fr.rec (fun lo hi => Q.rec (fun a0 b0 c0 d0 => Q.rec (fun a1 b1 c1 d1 => Q.rec (fun a2 b2 c2 d2 => Q.rec (fun a3 _ c3 d3 => ⟨⟨a0, ⟨a1, b1, ⟨⟨a3, v, c3, d3⟩, b2, c2, d2⟩, d1⟩, c0, d0⟩, hi⟩) a2) c1) b0) lo) fr
noncomputable def s98 (v : FV) (fr : Fr) : Fr := Fr.rec (fun lo hi => Q.rec (fun a0 b0 c0 d0 => Q.rec (fun a1 b1 c1 d1 => Q.rec (fun a2 b2 c2 d2 => Q.rec (fun a3 b3 _ d3 => ⟨⟨a0, ⟨a1, b1, ⟨⟨a3, b3, v, d3⟩, b2, c2, d2⟩, d1⟩, c0, d0⟩, hi⟩) a2) c1) b0) lo) fr
noncomputable def s99 (v : FV) (fr : Fr) : Fr := Fr.rec (fun lo hi => Q.rec (fun a0 b0 c0 d0 => Q.rec (fun a1 b1 c1 d1 => Q.rec (fun a2 b2 c2 d2 => Q.rec (fun a3 b3 c3 _ => ⟨⟨a0, ⟨a1, b1, ⟨⟨a3, b3, c3, v⟩, b2, c2, d2⟩, d1⟩, c0, d0⟩, hi⟩) a2) c1) b0) lo) fr
noncomputable def s100 (v : FV) (fr : Fr) : Fr := Fr.rec (fun lo hi => Q.rec (fun a0 b0 c0 d0 => Q.rec (fun a1 b1 c1 d1 => Q.rec (fun a2 b2 c2 d2 => Q.rec (fun _ b3 c3 d3 => ⟨⟨a0, ⟨a1, b1, ⟨a2, ⟨v, b3, c3, d3⟩, c2, d2⟩, d1⟩, c0, d0⟩, hi⟩) b2) c1) b0) lo) fr
noncomputable def s101 (v : FV) (fr : Fr) : Fr := Fr.rec (fun lo hi => Q.rec (fun a0 b0 c0 d0 => Q.rec (fun a1 b1 c1 d1 => Q.rec (fun a2 b2 c2 d2 => Q.rec (fun a3 _ c3 d3 => ⟨⟨a0, ⟨a1, b1, ⟨a2, ⟨a3, v, c3, d3⟩, c2, d2⟩, d1⟩, c0, d0⟩, hi⟩) b2) c1) b0) lo) fr
noncomputable def s102 (v : FV) (fr : Fr) : Fr := Fr.rec (fun lo hi => Q.rec (fun a0 b0 c0 d0 => Q.rec (fun a1 b1 c1 d1 => Q.rec (fun a2 b2 c2 d2 => Q.rec (fun a3 b3 _ d3 => ⟨⟨a0, ⟨a1, b1, ⟨a2, ⟨a3, b3, v, d3⟩, c2, d2⟩, d1⟩, c0, d0⟩, hi⟩) b2) c1) b0) lo) fr
noncomputable def s103 (v : FV) (fr : Fr) : Fr := Fr.rec (fun lo hi => Q.rec (fun a0 b0 c0 d0 => Q.rec (fun a1 b1 c1 d1 => Q.rec (fun a2 b2 c2 d2 => Q.rec (fun a3 b3 c3 _ => ⟨⟨a0, ⟨a1, b1, ⟨a2, ⟨a3, b3, c3, v⟩, c2, d2⟩, d1⟩, c0, d0⟩, hi⟩) b2) c1) b0) lo) fr
noncomputable def s104 (v : FV) (fr : Fr) : Fr := Fr.rec (fun lo hi => Q.rec (fun a0 b0 c0 d0 => Q.rec (fun a1 b1 c1 d1 => Q.rec (fun a2 b2 c2 d2 => Q.rec (fun _ b3 c3 d3 => ⟨⟨a0, ⟨a1, b1, ⟨a2, b2, ⟨v, b3, c3, d3⟩, d2⟩, d1⟩, c0, d0⟩, hi⟩) c2) c1) b0) lo) fr
noncomputable def s105 (v : FV) (fr : Fr) : Fr := Fr.rec (fun lo hi => Q.rec (fun a0 b0 c0 d0 => Q.rec (fun a1 b1 c1 d1 => Q.rec (fun a2 b2 c2 d2 => Q.rec (fun a3 _ c3 d3 => ⟨⟨a0, ⟨a1, b1, ⟨a2, b2, ⟨a3, v, c3, d3⟩, d2⟩, d1⟩, c0, d0⟩, hi⟩) c2) c1) b0) lo) fr
noncomputable def s106 (v : FV) (fr : Fr) : Fr := Fr.rec (fun lo hi => Q.rec (fun a0 b0 c0 d0 => Q.rec (fun a1 b1 c1 d1 => Q.rec (fun a2 b2 c2 d2 => Q.rec (fun a3 b3 _ d3 => ⟨⟨a0, ⟨a1, b1, ⟨a2, b2, ⟨a3, b3, v, d3⟩, d2⟩, d1⟩, c0, d0⟩, hi⟩) c2) c1) b0) lo) fr
noncomputable def s107 (v : FV) (fr : Fr) : Fr := Fr.rec (fun lo hi => Q.rec (fun a0 b0 c0 d0 => Q.rec (fun a1 b1 c1 d1 => Q.rec (fun a2 b2 c2 d2 => Q.rec (fun a3 b3 c3 _ => ⟨⟨a0, ⟨a1, b1, ⟨a2, b2, ⟨a3, b3, c3, v⟩, d2⟩, d1⟩, c0, d0⟩, hi⟩) c2) c1) b0) lo) fr
noncomputable def s108 (v : FV) (fr : Fr) : Fr := Fr.rec (fun lo hi => Q.rec (fun a0 b0 c0 d0 => Q.rec (fun a1 b1 c1 d1 => Q.rec (fun a2 b2 c2 d2 => Q.rec (fun _ b3 c3 d3 => ⟨⟨a0, ⟨a1, b1, ⟨a2, b2, c2, ⟨v, b3, c3, d3⟩⟩, d1⟩, c0, d0⟩, hi⟩) d2) c1) b0) lo) fr
noncomputable def s109 (v : FV) (fr : Fr) : Fr := Fr.rec (fun lo hi => Q.rec (fun a0 b0 c0 d0 => Q.rec (fun a1 b1 c1 d1 => Q.rec (fun a2 b2 c2 d2 => Q.rec (fun a3 _ c3 d3 => ⟨⟨a0, ⟨a1, b1, ⟨a2, b2, c2, ⟨a3, v, c3, d3⟩⟩, d1⟩, c0, d0⟩, hi⟩) d2) c1) b0) lo) fr
noncomputable def s110 (v : FV) (fr : Fr) : Fr := Fr.rec (fun lo hi => Q.rec (fun a0 b0 c0 d0 => Q.rec (fun a1 b1 c1 d1 => Q.rec (fun a2 b2 c2 d2 => Q.rec (fun a3 b3 _ d3 => ⟨⟨a0, ⟨a1, b1, ⟨a2, b2, c2, ⟨a3, b3, v, d3⟩⟩, d1⟩, c0, d0⟩, hi⟩) d2) c1) b0) lo) fr
noncomputable def s111 (v : FV) (fr : Fr) : Fr := Fr.rec (fun lo hi => Q.rec (fun a0 b0 c0 d0 => Q.rec (fun a1 b1 c1 d1 => Q.rec (fun a2 b2 c2 d2 => Q.rec (fun a3 b3 c3 _ => ⟨⟨a0, ⟨a1, b1, ⟨a2, b2, c2, ⟨a3, b3, c3, v⟩⟩, d1⟩, c0, d0⟩, hi⟩) d2) c1) b0) lo) fr
noncomputable def s112 (v : FV) (fr : Fr) : Fr := Fr.rec (fun lo hi => Q.rec (fun a0 b0 c0 d0 => Q.rec (fun a1 b1 c1 d1 => Q.rec (fun a2 b2 c2 d2 => Q.rec (fun _ b3 c3 d3 => ⟨⟨a0, ⟨a1, b1, c1, ⟨⟨v, b3, c3, d3⟩, b2, c2, d2⟩⟩, c0, d0⟩, hi⟩) a2) d1) b0) lo) fr
noncomputable def s113 (v : FV) (fr : Fr) : Fr := Fr.rec (fun lo hi => Q.rec (fun a0 b0 c0 d0 => Q.rec (fun a1 b1 c1 d1 => Q.rec (fun a2 b2 c2 d2 => Q.rec (fun a3 _ c3 d3 => ⟨⟨a0, ⟨a1, b1, c1, ⟨⟨a3, v, c3, d3⟩, b2, c2, d2⟩⟩, c0, d0⟩, hi⟩) a2) d1) b0) lo) fr
noncomputable def s114 (v : FV) (fr : Fr) : Fr := Fr.rec (fun lo hi => Q.rec (fun a0 b0 c0 d0 => Q.rec (fun a1 b1 c1 d1 => Q.rec (fun a2 b2 c2 d2 => Q.rec (fun a3 b3 _ d3 => ⟨⟨a0, ⟨a1, b1, c1, ⟨⟨a3, b3, v, d3⟩, b2, c2, d2⟩⟩, c0, d0⟩, hi⟩) a2) d1) b0) lo) fr
noncomputable def s115 (v : FV) (fr : Fr) : Fr := Fr.rec (fun lo hi => Q.rec (fun a0 b0 c0 d0 => Q.rec (fun a1 b1 c1 d1 => Q.rec (fun a2 b2 c2 d2 => Q.rec (fun a3 b3 c3 _ => ⟨⟨a0, ⟨a1, b1, c1, ⟨⟨a3, b3, c3, v⟩, b2, c2, d2⟩⟩, c0, d0⟩, hi⟩) a2) d1) b0) lo) fr
noncomputable def s116 (v : FV) (fr : Fr) : Fr := Fr.rec (fun lo hi => Q.rec (fun a0 b0 c0 d0 => Q.rec (fun a1 b1 c1 d1 => Q.rec (fun a2 b2 c2 d2 => Q.rec (fun _ b3 c3 d3 => ⟨⟨a0, ⟨a1, b1, c1, ⟨a2, ⟨v, b3, c3, d3⟩, c2, d2⟩⟩, c0, d0⟩, hi⟩) b2) d1) b0) lo) fr
noncomputable def s117 (v : FV) (fr : Fr) : Fr := Fr.rec (fun lo hi => Q.rec (fun a0 b0 c0 d0 => Q.rec (fun a1 b1 c1 d1 => Q.rec (fun a2 b2 c2 d2 => Q.rec (fun a3 _ c3 d3 => ⟨⟨a0, ⟨a1, b1, c1, ⟨a2, ⟨a3, v, c3, d3⟩, c2, d2⟩⟩, c0, d0⟩, hi⟩) b2) d1) b0) lo) fr
noncomputable def s118 (v : FV) (fr : Fr) : Fr := Fr.rec (fun lo hi => Q.rec (fun a0 b0 c0 d0 => Q.rec (fun a1 b1 c1 d1 => Q.rec (fun a2 b2 c2 d2 => Q.rec (fun a3 b3 _ d3 => ⟨⟨a0, ⟨a1, b1, c1, ⟨a2, ⟨a3, b3, v, d3⟩, c2, d2⟩⟩, c0, d0⟩, hi⟩) b2) d1) b0) lo) fr
noncomputable def s119 (v : FV) (fr : Fr) : Fr := Fr.rec (fun lo hi => Q.rec (fun a0 b0 c0 d0 => Q.rec (fun a1 b1 c1 d1 => Q.rec (fun a2 b2 c2 d2 => Q.rec (fun a3 b3 c3 _ => ⟨⟨a0, ⟨a1, b1, c1, ⟨a2, ⟨a3, b3, c3, v⟩, c2, d2⟩⟩, c0, d0⟩, hi⟩) b2) d1) b0) lo) fr
noncomputable def s120 (v : FV) (fr : Fr) : Fr := Fr.rec (fun lo hi => Q.rec (fun a0 b0 c0 d0 => Q.rec (fun a1 b1 c1 d1 => Q.rec (fun a2 b2 c2 d2 => Q.rec (fun _ b3 c3 d3 => ⟨⟨a0, ⟨a1, b1, c1, ⟨a2, b2, ⟨v, b3, c3, d3⟩, d2⟩⟩, c0, d0⟩, hi⟩) c2) d1) b0) lo) fr
noncomputable def s121 (v : FV) (fr : Fr) : Fr := Fr.rec (fun lo hi => Q.rec (fun a0 b0 c0 d0 => Q.rec (fun a1 b1 c1 d1 => Q.rec (fun a2 b2 c2 d2 => Q.rec (fun a3 _ c3 d3 => ⟨⟨a0, ⟨a1, b1, c1, ⟨a2, b2, ⟨a3, v, c3, d3⟩, d2⟩⟩, c0, d0⟩, hi⟩) c2) d1) b0) lo) fr
noncomputable def s122 (v : FV) (fr : Fr) : Fr := Fr.rec (fun lo hi => Q.rec (fun a0 b0 c0 d0 => Q.rec (fun a1 b1 c1 d1 => Q.rec (fun a2 b2 c2 d2 => Q.rec (fun a3 b3 _ d3 => ⟨⟨a0, ⟨a1, b1, c1, ⟨a2, b2, ⟨a3, b3, v, d3⟩, d2⟩⟩, c0, d0⟩, hi⟩) c2) d1) b0) lo) fr
noncomputable def s123 (v : FV) (fr : Fr) : Fr := Fr.rec (fun lo hi => Q.rec (fun a0 b0 c0 d0 => Q.rec (fun a1 b1 c1 d1 => Q.rec (fun a2 b2 c2 d2 => Q.rec (fun a3 b3 c3 _ => ⟨⟨a0, ⟨a1, b1, c1, ⟨a2, b2, ⟨a3, b3, c3, v⟩, d2⟩⟩, c0, d0⟩, hi⟩) c2) d1) b0) lo) fr
noncomputable def s124 (v : FV) (fr : Fr) : Fr := Fr.rec (fun lo hi => Q.rec (fun a0 b0 c0 d0 => Q.rec (fun a1 b1 c1 d1 => Q.rec (fun a2 b2 c2 d2 => Q.rec (fun _ b3 c3 d3 => ⟨⟨a0, ⟨a1, b1, c1, ⟨a2, b2, c2, ⟨v, b3, c3, d3⟩⟩⟩, c0, d0⟩, hi⟩) d2) d1) b0) lo) fr
noncomputable def s125 (v : FV) (fr : Fr) : Fr := Fr.rec (fun lo hi => Q.rec (fun a0 b0 c0 d0 => Q.rec (fun a1 b1 c1 d1 => Q.rec (fun a2 b2 c2 d2 => Q.rec (fun a3 _ c3 d3 => ⟨⟨a0, ⟨a1, b1, c1, ⟨a2, b2, c2, ⟨a3, v, c3, d3⟩⟩⟩, c0, d0⟩, hi⟩) d2) d1) b0) lo) fr
noncomputable def s126 (v : FV) (fr : Fr) : Fr := Fr.rec (fun lo hi => Q.rec (fun a0 b0 c0 d0 => Q.rec (fun a1 b1 c1 d1 => Q.rec (fun a2 b2 c2 d2 => Q.rec (fun a3 b3 _ d3 => ⟨⟨a0, ⟨a1, b1, c1, ⟨a2, b2, c2, ⟨a3, b3, v, d3⟩⟩⟩, c0, d0⟩, hi⟩) d2) d1) b0) lo) fr
noncomputable def s127 (v : FV) (fr : Fr) : Fr := Fr.rec (fun lo hi => Q.rec (fun a0 b0 c0 d0 => Q.rec (fun a1 b1 c1 d1 => Q.rec (fun a2 b2 c2 d2 => Q.rec (fun a3 b3 c3 _ => ⟨⟨a0, ⟨a1, b1, c1, ⟨a2, b2, c2, ⟨a3, b3, c3, v⟩⟩⟩, c0, d0⟩, hi⟩) d2) d1) b0) lo) fr
noncomputable def s128 (v : FV) (fr : Fr) : Fr := Fr.rec (fun lo hi => Q.rec (fun a0 b0 c0 d0 => Q.rec (fun a1 b1 c1 d1 => Q.rec (fun a2 b2 c2 d2 => Q.rec (fun _ b3 c3 d3 => ⟨⟨a0, b0, ⟨⟨⟨v, b3, c3, d3⟩, b2, c2, d2⟩, b1, c1, d1⟩, d0⟩, hi⟩) a2) a1) c0) lo) fr
noncomputable def s129 (v : FV) (fr : Fr) : Fr := Fr.rec (fun lo hi => Q.rec (fun a0 b0 c0 d0 => Q.rec (fun a1 b1 c1 d1 => Q.rec (fun a2 b2 c2 d2 => Q.rec (fun a3 _ c3 d3 => ⟨⟨a0, b0, ⟨⟨⟨a3, v, c3, d3⟩, b2, c2, d2⟩, b1, c1, d1⟩, d0⟩, hi⟩) a2) a1) c0) lo) fr
noncomputable def s130 (v : FV) (fr : Fr) : Fr := Fr.rec (fun lo hi => Q.rec (fun a0 b0 c0 d0 => Q.rec (fun a1 b1 c1 d1 => Q.rec (fun a2 b2 c2 d2 => Q.rec (fun a3 b3 _ d3 => ⟨⟨a0, b0, ⟨⟨⟨a3, b3, v, d3⟩, b2, c2, d2⟩, b1, c1, d1⟩, d0⟩, hi⟩) a2) a1) c0) lo) fr
noncomputable def s131 (v : FV) (fr : Fr) : Fr := Fr.rec (fun lo hi => Q.rec (fun a0 b0 c0 d0 => Q.rec (fun a1 b1 c1 d1 => Q.rec (fun a2 b2 c2 d2 => Q.rec (fun a3 b3 c3 _ => ⟨⟨a0, b0, ⟨⟨⟨a3, b3, c3, v⟩, b2, c2, d2⟩, b1, c1, d1⟩, d0⟩, hi⟩) a2) a1) c0) lo) fr
noncomputable def s132 (v : FV) (fr : Fr) : Fr := Fr.rec (fun lo hi => Q.rec (fun a0 b0 c0 d0 => Q.rec (fun a1 b1 c1 d1 => Q.rec (fun a2 b2 c2 d2 => Q.rec (fun _ b3 c3 d3 => ⟨⟨a0, b0, ⟨⟨a2, ⟨v, b3, c3, d3⟩, c2, d2⟩, b1, c1, d1⟩, d0⟩, hi⟩) b2) a1) c0) lo) fr
noncomputable def s133 (v : FV) (fr : Fr) : Fr := Fr.rec (fun lo hi => Q.rec (fun a0 b0 c0 d0 => Q.rec (fun a1 b1 c1 d1 => Q.rec (fun a2 b2 c2 d2 => Q.rec (fun a3 _ c3 d3 => ⟨⟨a0, b0, ⟨⟨a2, ⟨a3, v, c3, d3⟩, c2, d2⟩, b1, c1, d1⟩, d0⟩, hi⟩) b2) a1) c0) lo) fr
noncomputable def s134 (v : FV) (fr : Fr) : Fr := Fr.rec (fun lo hi => Q.rec (fun a0 b0 c0 d0 => Q.rec (fun a1 b1 c1 d1 => Q.rec (fun a2 b2 c2 d2 => Q.rec (fun a3 b3 _ d3 => ⟨⟨a0, b0, ⟨⟨a2, ⟨a3, b3, v, d3⟩, c2, d2⟩, b1, c1, d1⟩, d0⟩, hi⟩) b2) a1) c0) lo) fr
noncomputable def s135 (v : FV) (fr : Fr) : Fr := Fr.rec (fun lo hi => Q.rec (fun a0 b0 c0 d0 => Q.rec (fun a1 b1 c1 d1 => Q.rec (fun a2 b2 c2 d2 => Q.rec (fun a3 b3 c3 _ => ⟨⟨a0, b0, ⟨⟨a2, ⟨a3, b3, c3, v⟩, c2, d2⟩, b1, c1, d1⟩, d0⟩, hi⟩) b2) a1) c0) lo) fr
noncomputable def s136 (v : FV) (fr : Fr) : Fr := Fr.rec (fun lo hi => Q.rec (fun a0 b0 c0 d0 => Q.rec (fun a1 b1 c1 d1 => Q.rec (fun a2 b2 c2 d2 => Q.rec (fun _ b3 c3 d3 => ⟨⟨a0, b0, ⟨⟨a2, b2, ⟨v, b3, c3, d3⟩, d2⟩, b1, c1, d1⟩, d0⟩, hi⟩) c2) a1) c0) lo) fr
noncomputable def s137 (v : FV) (fr : Fr) : Fr := Fr.rec (fun lo hi => Q.rec (fun a0 b0 c0 d0 => Q.rec (fun a1 b1 c1 d1 => Q.rec (fun a2 b2 c2 d2 => Q.rec (fun a3 _ c3 d3 => ⟨⟨a0, b0, ⟨⟨a2, b2, ⟨a3, v, c3, d3⟩, d2⟩, b1, c1, d1⟩, d0⟩, hi⟩) c2) a1) c0) lo) fr
noncomputable def s138 (v : FV) (fr : Fr) : Fr := Fr.rec (fun lo hi => Q.rec (fun a0 b0 c0 d0 => Q.rec (fun a1 b1 c1 d1 => Q.rec (fun a2 b2 c2 d2 => Q.rec (fun a3 b3 _ d3 => ⟨⟨a0, b0, ⟨⟨a2, b2, ⟨a3, b3, v, d3⟩, d2⟩, b1, c1, d1⟩, d0⟩, hi⟩) c2) a1) c0) lo) fr
noncomputable def s139 (v : FV) (fr : Fr) : Fr := Fr.rec (fun lo hi => Q.rec (fun a0 b0 c0 d0 => Q.rec (fun a1 b1 c1 d1 => Q.rec (fun a2 b2 c2 d2 => Q.rec (fun a3 b3 c3 _ => ⟨⟨a0, b0, ⟨⟨a2, b2, ⟨a3, b3, c3, v⟩, d2⟩, b1, c1, d1⟩, d0⟩, hi⟩) c2) a1) c0) lo) fr
noncomputable def s140 (v : FV) (fr : Fr) : Fr := Fr.rec (fun lo hi => Q.rec (fun a0 b0 c0 d0 => Q.rec (fun a1 b1 c1 d1 => Q.rec (fun a2 b2 c2 d2 => Q.rec (fun _ b3 c3 d3 => ⟨⟨a0, b0, ⟨⟨a2, b2, c2, ⟨v, b3, c3, d3⟩⟩, b1, c1, d1⟩, d0⟩, hi⟩) d2) a1) c0) lo) fr
noncomputable def s141 (v : FV) (fr : Fr) : Fr := Fr.rec (fun lo hi => Q.rec (fun a0 b0 c0 d0 => Q.rec (fun a1 b1 c1 d1 => Q.rec (fun a2 b2 c2 d2 => Q.rec (fun a3 _ c3 d3 => ⟨⟨a0, b0, ⟨⟨a2, b2, c2, ⟨a3, v, c3, d3⟩⟩, b1, c1, d1⟩, d0⟩, hi⟩) d2) a1) c0) lo) fr
noncomputable def s142 (v : FV) (fr : Fr) : Fr := Fr.rec (fun lo hi => Q.rec (fun a0 b0 c0 d0 => Q.rec (fun a1 b1 c1 d1 => Q.rec (fun a2 b2 c2 d2 => Q.rec (fun a3 b3 _ d3 => ⟨⟨a0, b0, ⟨⟨a2, b2, c2, ⟨a3, b3, v, d3⟩⟩, b1, c1, d1⟩, d0⟩, hi⟩) d2) a1) c0) lo) fr
noncomputable def s143 (v : FV) (fr : Fr) : Fr := Fr.rec (fun lo hi => Q.rec (fun a0 b0 c0 d0 => Q.rec (fun a1 b1 c1 d1 => Q.rec (fun a2 b2 c2 d2 => Q.rec (fun a3 b3 c3 _ => ⟨⟨a0, b0, ⟨⟨a2, b2, c2, ⟨a3, b3, c3, v⟩⟩, b1, c1, d1⟩, d0⟩, hi⟩) d2) a1) c0) lo) fr
noncomputable def s144 (v : FV) (fr : Fr) : Fr := Fr.rec (fun lo hi => Q.rec (fun a0 b0 c0 d0 => Q.rec (fun a1 b1 c1 d1 => Q.rec (fun a2 b2 c2 d2 => Q.rec (fun _ b3 c3 d3 => ⟨⟨a0, b0, ⟨a1, ⟨⟨v, b3, c3, d3⟩, b2, c2, d2⟩, c1, d1⟩, d0⟩, hi⟩) a2) b1) c0) lo) fr
noncomputable def s145 (v : FV) (fr : Fr) : Fr := Fr.rec (fun lo hi => Q.rec (fun a0 b0 c0 d0 => Q.rec (fun a1 b1 c1 d1 => Q.rec (fun a2 b2 c2 d2 => Q.rec (fun a3 _ c3 d3 => ⟨⟨a0, b0, ⟨a1, ⟨⟨a3, v, c3, d3⟩, b2, c2, d2⟩, c1, d1⟩, d0⟩, hi⟩) a2) b1) c0) lo) fr
noncomputable def s146 (v : FV) (fr : Fr) : Fr := Fr.rec (fun lo hi => Q.rec (fun a0 b0 c0 d0 => Q.rec (fun a1 b1 c1 d1 => Q.rec (fun a2 b2 c2 d2 => Q.rec (fun a3 b3 _ d3 => ⟨⟨a0, b0, ⟨a1, ⟨⟨a3, b3, v, d3⟩, b2, c2, d2⟩, c1, d1⟩, d0⟩, hi⟩) a2) b1) c0) lo) fr
noncomputable def s147 (v : FV) (fr : Fr) : Fr := Fr.rec (fun lo hi => Q.rec (fun a0 b0 c0 d0 => Q.rec (fun a1 b1 c1 d1 => Q.rec (fun a2 b2 c2 d2 => Q.rec (fun a3 b3 c3 _ => ⟨⟨a0, b0, ⟨a1, ⟨⟨a3, b3, c3, v⟩, b2, c2, d2⟩, c1, d1⟩, d0⟩, hi⟩) a2) b1) c0) lo) fr
noncomputable def s148 (v : FV) (fr : Fr) : Fr := Fr.rec (fun lo hi => Q.rec (fun a0 b0 c0 d0 => Q.rec (fun a1 b1 c1 d1 => Q.rec (fun a2 b2 c2 d2 => Q.rec (fun _ b3 c3 d3 => ⟨⟨a0, b0, ⟨a1, ⟨a2, ⟨v, b3, c3, d3⟩, c2, d2⟩, c1, d1⟩, d0⟩, hi⟩) b2) b1) c0) lo) fr
noncomputable def s149 (v : FV) (fr : Fr) : Fr := Fr.rec (fun lo hi => Q.rec (fun a0 b0 c0 d0 => Q.rec (fun a1 b1 c1 d1 => Q.rec (fun a2 b2 c2 d2 => Q.rec (fun a3 _ c3 d3 => ⟨⟨a0, b0, ⟨a1, ⟨a2, ⟨a3, v, c3, d3⟩, c2, d2⟩, c1, d1⟩, d0⟩, hi⟩) b2) b1) c0) lo) fr
noncomputable def s150 (v : FV) (fr : Fr) : Fr := Fr.rec (fun lo hi => Q.rec (fun a0 b0 c0 d0 => Q.rec (fun a1 b1 c1 d1 => Q.rec (fun a2 b2 c2 d2 => Q.rec (fun a3 b3 _ d3 => ⟨⟨a0, b0, ⟨a1, ⟨a2, ⟨a3, b3, v, d3⟩, c2, d2⟩, c1, d1⟩, d0⟩, hi⟩) b2) b1) c0) lo) fr
noncomputable def s151 (v : FV) (fr : Fr) : Fr := Fr.rec (fun lo hi => Q.rec (fun a0 b0 c0 d0 => Q.rec (fun a1 b1 c1 d1 => Q.rec (fun a2 b2 c2 d2 => Q.rec (fun a3 b3 c3 _ => ⟨⟨a0, b0, ⟨a1, ⟨a2, ⟨a3, b3, c3, v⟩, c2, d2⟩, c1, d1⟩, d0⟩, hi⟩) b2) b1) c0) lo) fr
noncomputable def s152 (v : FV) (fr : Fr) : Fr := Fr.rec (fun lo hi => Q.rec (fun a0 b0 c0 d0 => Q.rec (fun a1 b1 c1 d1 => Q.rec (fun a2 b2 c2 d2 => Q.rec (fun _ b3 c3 d3 => ⟨⟨a0, b0, ⟨a1, ⟨a2, b2, ⟨v, b3, c3, d3⟩, d2⟩, c1, d1⟩, d0⟩, hi⟩) c2) b1) c0) lo) fr
noncomputable def s153 (v : FV) (fr : Fr) : Fr := Fr.rec (fun lo hi => Q.rec (fun a0 b0 c0 d0 => Q.rec (fun a1 b1 c1 d1 => Q.rec (fun a2 b2 c2 d2 => Q.rec (fun a3 _ c3 d3 => ⟨⟨a0, b0, ⟨a1, ⟨a2, b2, ⟨a3, v, c3, d3⟩, d2⟩, c1, d1⟩, d0⟩, hi⟩) c2) b1) c0) lo) fr
noncomputable def s154 (v : FV) (fr : Fr) : Fr := Fr.rec (fun lo hi => Q.rec (fun a0 b0 c0 d0 => Q.rec (fun a1 b1 c1 d1 => Q.rec (fun a2 b2 c2 d2 => Q.rec (fun a3 b3 _ d3 => ⟨⟨a0, b0, ⟨a1, ⟨a2, b2, ⟨a3, b3, v, d3⟩, d2⟩, c1, d1⟩, d0⟩, hi⟩) c2) b1) c0) lo) fr
noncomputable def s155 (v : FV) (fr : Fr) : Fr := Fr.rec (fun lo hi => Q.rec (fun a0 b0 c0 d0 => Q.rec (fun a1 b1 c1 d1 => Q.rec (fun a2 b2 c2 d2 => Q.rec (fun a3 b3 c3 _ => ⟨⟨a0, b0, ⟨a1, ⟨a2, b2, ⟨a3, b3, c3, v⟩, d2⟩, c1, d1⟩, d0⟩, hi⟩) c2) b1) c0) lo) fr
noncomputable def s156 (v : FV) (fr : Fr) : Fr := Fr.rec (fun lo hi => Q.rec (fun a0 b0 c0 d0 => Q.rec (fun a1 b1 c1 d1 => Q.rec (fun a2 b2 c2 d2 => Q.rec (fun _ b3 c3 d3 => ⟨⟨a0, b0, ⟨a1, ⟨a2, b2, c2, ⟨v, b3, c3, d3⟩⟩, c1, d1⟩, d0⟩, hi⟩) d2) b1) c0) lo) fr
noncomputable def s157 (v : FV) (fr : Fr) : Fr := Fr.rec (fun lo hi => Q.rec (fun a0 b0 c0 d0 => Q.rec (fun a1 b1 c1 d1 => Q.rec (fun a2 b2 c2 d2 => Q.rec (fun a3 _ c3 d3 => ⟨⟨a0, b0, ⟨a1, ⟨a2, b2, c2, ⟨a3, v, c3, d3⟩⟩, c1, d1⟩, d0⟩, hi⟩) d2) b1) c0) lo) fr
noncomputable def s158 (v : FV) (fr : Fr) : Fr := Fr.rec (fun lo hi => Q.rec (fun a0 b0 c0 d0 => Q.rec (fun a1 b1 c1 d1 => Q.rec (fun a2 b2 c2 d2 => Q.rec (fun a3 b3 _ d3 => ⟨⟨a0, b0, ⟨a1, ⟨a2, b2, c2, ⟨a3, b3, v, d3⟩⟩, c1, d1⟩, d0⟩, hi⟩) d2) b1) c0) lo) fr
noncomputable def s159 (v : FV) (fr : Fr) : Fr := Fr.rec (fun lo hi => Q.rec (fun a0 b0 c0 d0 => Q.rec (fun a1 b1 c1 d1 => Q.rec (fun a2 b2 c2 d2 => Q.rec (fun a3 b3 c3 _ => ⟨⟨a0, b0, ⟨a1, ⟨a2, b2, c2, ⟨a3, b3, c3, v⟩⟩, c1, d1⟩, d0⟩, hi⟩) d2) b1) c0) lo) fr
noncomputable def s160 (v : FV) (fr : Fr) : Fr := Fr.rec (fun lo hi => Q.rec (fun a0 b0 c0 d0 => Q.rec (fun a1 b1 c1 d1 => Q.rec (fun a2 b2 c2 d2 => Q.rec (fun _ b3 c3 d3 => ⟨⟨a0, b0, ⟨a1, b1, ⟨⟨v, b3, c3, d3⟩, b2, c2, d2⟩, d1⟩, d0⟩, hi⟩) a2) c1) c0) lo) fr
noncomputable def s161 (v : FV) (fr : Fr) : Fr := Fr.rec (fun lo hi => Q.rec (fun a0 b0 c0 d0 => Q.rec (fun a1 b1 c1 d1 => Q.rec (fun a2 b2 c2 d2 => Q.rec (fun a3 _ c3 d3 => ⟨⟨a0, b0, ⟨a1, b1, ⟨⟨a3, v, c3, d3⟩, b2, c2, d2⟩, d1⟩, d0⟩, hi⟩) a2) c1) c0) lo) fr
noncomputable def s162 (v : FV) (fr : Fr) : Fr := Fr.rec (fun lo hi => Q.rec (fun a0 b0 c0 d0 => Q.rec (fun a1 b1 c1 d1 => Q.rec (fun a2 b2 c2 d2 => Q.rec (fun a3 b3 _ d3 => ⟨⟨a0, b0, ⟨a1, b1, ⟨⟨a3, b3, v, d3⟩, b2, c2, d2⟩, d1⟩, d0⟩, hi⟩) a2) c1) c0) lo) fr
noncomputable def s163 (v : FV) (fr : Fr) : Fr := Fr.rec (fun lo hi => Q.rec (fun a0 b0 c0 d0 => Q.rec (fun a1 b1 c1 d1 => Q.rec (fun a2 b2 c2 d2 => Q.rec (fun a3 b3 c3 _ => ⟨⟨a0, b0, ⟨a1, b1, ⟨⟨a3, b3, c3, v⟩, b2, c2, d2⟩, d1⟩, d0⟩, hi⟩) a2) c1) c0) lo) fr
noncomputable def s164 (v : FV) (fr : Fr) : Fr := Fr.rec (fun lo hi => Q.rec (fun a0 b0 c0 d0 => Q.rec (fun a1 b1 c1 d1 => Q.rec (fun a2 b2 c2 d2 => Q.rec (fun _ b3 c3 d3 => ⟨⟨a0, b0, ⟨a1, b1, ⟨a2, ⟨v, b3, c3, d3⟩, c2, d2⟩, d1⟩, d0⟩, hi⟩) b2) c1) c0) lo) fr
noncomputable def s165 (v : FV) (fr : Fr) : Fr := Fr.rec (fun lo hi => Q.rec (fun a0 b0 c0 d0 => Q.rec (fun a1 b1 c1 d1 => Q.rec (fun a2 b2 c2 d2 => Q.rec (fun a3 _ c3 d3 => ⟨⟨a0, b0, ⟨a1, b1, ⟨a2, ⟨a3, v, c3, d3⟩, c2, d2⟩, d1⟩, d0⟩, hi⟩) b2) c1) c0) lo) fr
noncomputable def s166 (v : FV) (fr : Fr) : Fr := Fr.rec (fun lo hi => Q.rec (fun a0 b0 c0 d0 => Q.rec (fun a1 b1 c1 d1 => Q.rec (fun a2 b2 c2 d2 => Q.rec (fun a3 b3 _ d3 => ⟨⟨a0, b0, ⟨a1, b1, ⟨a2, ⟨a3, b3, v, d3⟩, c2, d2⟩, d1⟩, d0⟩, hi⟩) b2) c1) c0) lo) fr
noncomputable def s167 (v : FV) (fr : Fr) : Fr := Fr.rec (fun lo hi => Q.rec (fun a0 b0 c0 d0 => Q.rec (fun a1 b1 c1 d1 => Q.rec (fun a2 b2 c2 d2 => Q.rec (fun a3 b3 c3 _ => ⟨⟨a0, b0, ⟨a1, b1, ⟨a2, ⟨a3, b3, c3, v⟩, c2, d2⟩, d1⟩, d0⟩, hi⟩) b2) c1) c0) lo) fr
noncomputable def s168 (v : FV) (fr : Fr) : Fr := Fr.rec (fun lo hi => Q.rec (fun a0 b0 c0 d0 => Q.rec (fun a1 b1 c1 d1 => Q.rec (fun a2 b2 c2 d2 => Q.rec (fun _ b3 c3 d3 => ⟨⟨a0, b0, ⟨a1, b1, ⟨a2, b2, ⟨v, b3, c3, d3⟩, d2⟩, d1⟩, d0⟩, hi⟩) c2) c1) c0) lo) fr
noncomputable def s169 (v : FV) (fr : Fr) : Fr := Fr.rec (fun lo hi => Q.rec (fun a0 b0 c0 d0 => Q.rec (fun a1 b1 c1 d1 => Q.rec (fun a2 b2 c2 d2 => Q.rec (fun a3 _ c3 d3 => ⟨⟨a0, b0, ⟨a1, b1, ⟨a2, b2, ⟨a3, v, c3, d3⟩, d2⟩, d1⟩, d0⟩, hi⟩) c2) c1) c0) lo) fr
noncomputable def s170 (v : FV) (fr : Fr) : Fr := Fr.rec (fun lo hi => Q.rec (fun a0 b0 c0 d0 => Q.rec (fun a1 b1 c1 d1 => Q.rec (fun a2 b2 c2 d2 => Q.rec (fun a3 b3 _ d3 => ⟨⟨a0, b0, ⟨a1, b1, ⟨a2, b2, ⟨a3, b3, v, d3⟩, d2⟩, d1⟩, d0⟩, hi⟩) c2) c1) c0) lo) fr
noncomputable def s171 (v : FV) (fr : Fr) : Fr := Fr.rec (fun lo hi => Q.rec (fun a0 b0 c0 d0 => Q.rec (fun a1 b1 c1 d1 => Q.rec (fun a2 b2 c2 d2 => Q.rec (fun a3 b3 c3 _ => ⟨⟨a0, b0, ⟨a1, b1, ⟨a2, b2, ⟨a3, b3, c3, v⟩, d2⟩, d1⟩, d0⟩, hi⟩) c2) c1) c0) lo) fr
noncomputable def s172 (v : FV) (fr : Fr) : Fr := Fr.rec (fun lo hi => Q.rec (fun a0 b0 c0 d0 => Q.rec (fun a1 b1 c1 d1 => Q.rec (fun a2 b2 c2 d2 => Q.rec (fun _ b3 c3 d3 => ⟨⟨a0, b0, ⟨a1, b1, ⟨a2, b2, c2, ⟨v, b3, c3, d3⟩⟩, d1⟩, d0⟩, hi⟩) d2) c1) c0) lo) fr
noncomputable def s173 (v : FV) (fr : Fr) : Fr := Fr.rec (fun lo hi => Q.rec (fun a0 b0 c0 d0 => Q.rec (fun a1 b1 c1 d1 => Q.rec (fun a2 b2 c2 d2 => Q.rec (fun a3 _ c3 d3 => ⟨⟨a0, b0, ⟨a1, b1, ⟨a2, b2, c2, ⟨a3, v, c3, d3⟩⟩, d1⟩, d0⟩, hi⟩) d2) c1) c0) lo) fr
noncomputable def s174 (v : FV) (fr : Fr) : Fr := Fr.rec (fun lo hi => Q.rec (fun a0 b0 c0 d0 => Q.rec (fun a1 b1 c1 d1 => Q.rec (fun a2 b2 c2 d2 => Q.rec (fun a3 b3 _ d3 => ⟨⟨a0, b0, ⟨a1, b1, ⟨a2, b2, c2, ⟨a3, b3, v, d3⟩⟩, d1⟩, d0⟩, hi⟩) d2) c1) c0) lo) fr
noncomputable def s175 (v : FV) (fr : Fr) : Fr := Fr.rec (fun lo hi => Q.rec (fun a0 b0 c0 d0 => Q.rec (fun a1 b1 c1 d1 => Q.rec (fun a2 b2 c2 d2 => Q.rec (fun a3 b3 c3 _ => ⟨⟨a0, b0, ⟨a1, b1, ⟨a2, b2, c2, ⟨a3, b3, c3, v⟩⟩, d1⟩, d0⟩, hi⟩) d2) c1) c0) lo) fr
noncomputable def s176 (v : FV) (fr : Fr) : Fr := Fr.rec (fun lo hi => Q.rec (fun a0 b0 c0 d0 => Q.rec (fun a1 b1 c1 d1 => Q.rec (fun a2 b2 c2 d2 => Q.rec (fun _ b3 c3 d3 => ⟨⟨a0, b0, ⟨a1, b1, c1, ⟨⟨v, b3, c3, d3⟩, b2, c2, d2⟩⟩, d0⟩, hi⟩) a2) d1) c0) lo) fr
noncomputable def s177 (v : FV) (fr : Fr) : Fr := Fr.rec (fun lo hi => Q.rec (fun a0 b0 c0 d0 => Q.rec (fun a1 b1 c1 d1 => Q.rec (fun a2 b2 c2 d2 => Q.rec (fun a3 _ c3 d3 => ⟨⟨a0, b0, ⟨a1, b1, c1, ⟨⟨a3, v, c3, d3⟩, b2, c2, d2⟩⟩, d0⟩, hi⟩) a2) d1) c0) lo) fr
noncomputable def s178 (v : FV) (fr : Fr) : Fr := Fr.rec (fun lo hi => Q.rec (fun a0 b0 c0 d0 => Q.rec (fun a1 b1 c1 d1 => Q.rec (fun a2 b2 c2 d2 => Q.rec (fun a3 b3 _ d3 => ⟨⟨a0, b0, ⟨a1, b1, c1, ⟨⟨a3, b3, v, d3⟩, b2, c2, d2⟩⟩, d0⟩, hi⟩) a2) d1) c0) lo) fr
noncomputable def s179 (v : FV) (fr : Fr) : Fr := Fr.rec (fun lo hi => Q.rec (fun a0 b0 c0 d0 => Q.rec (fun a1 b1 c1 d1 => Q.rec (fun a2 b2 c2 d2 => Q.rec (fun a3 b3 c3 _ => ⟨⟨a0, b0, ⟨a1, b1, c1, ⟨⟨a3, b3, c3, v⟩, b2, c2, d2⟩⟩, d0⟩, hi⟩) a2) d1) c0) lo) fr
noncomputable def s180 (v : FV) (fr : Fr) : Fr := Fr.rec (fun lo hi => Q.rec (fun a0 b0 c0 d0 => Q.rec (fun a1 b1 c1 d1 => Q.rec (fun a2 b2 c2 d2 => Q.rec (fun _ b3 c3 d3 => ⟨⟨a0, b0, ⟨a1, b1, c1, ⟨a2, ⟨v, b3, c3, d3⟩, c2, d2⟩⟩, d0⟩, hi⟩) b2) d1) c0) lo) fr
noncomputable def s181 (v : FV) (fr : Fr) : Fr := Fr.rec (fun lo hi => Q.rec (fun a0 b0 c0 d0 => Q.rec (fun a1 b1 c1 d1 => Q.rec (fun a2 b2 c2 d2 => Q.rec (fun a3 _ c3 d3 => ⟨⟨a0, b0, ⟨a1, b1, c1, ⟨a2, ⟨a3, v, c3, d3⟩, c2, d2⟩⟩, d0⟩, hi⟩) b2) d1) c0) lo) fr
noncomputable def s182 (v : FV) (fr : Fr) : Fr := Fr.rec (fun lo hi => Q.rec (fun a0 b0 c0 d0 => Q.rec (fun a1 b1 c1 d1 => Q.rec (fun a2 b2 c2 d2 => Q.rec (fun a3 b3 _ d3 => ⟨⟨a0, b0, ⟨a1, b1, c1, ⟨a2, ⟨a3, b3, v, d3⟩, c2, d2⟩⟩, d0⟩, hi⟩) b2) d1) c0) lo) fr
noncomputable def s183 (v : FV) (fr : Fr) : Fr := Fr.rec (fun lo hi => Q.rec (fun a0 b0 c0 d0 => Q.rec (fun a1 b1 c1 d1 => Q.rec (fun a2 b2 c2 d2 => Q.rec (fun a3 b3 c3 _ => ⟨⟨a0, b0, ⟨a1, b1, c1, ⟨a2, ⟨a3, b3, c3, v⟩, c2, d2⟩⟩, d0⟩, hi⟩) b2) d1) c0) lo) fr
noncomputable def s184 (v : FV) (fr : Fr) : Fr := Fr.rec (fun lo hi => Q.rec (fun a0 b0 c0 d0 => Q.rec (fun a1 b1 c1 d1 => Q.rec (fun a2 b2 c2 d2 => Q.rec (fun _ b3 c3 d3 => ⟨⟨a0, b0, ⟨a1, b1, c1, ⟨a2, b2, ⟨v, b3, c3, d3⟩, d2⟩⟩, d0⟩, hi⟩) c2) d1) c0) lo) fr
noncomputable def s185 (v : FV) (fr : Fr) : Fr := Fr.rec (fun lo hi => Q.rec (fun a0 b0 c0 d0 => Q.rec (fun a1 b1 c1 d1 => Q.rec (fun a2 b2 c2 d2 => Q.rec (fun a3 _ c3 d3 => ⟨⟨a0, b0, ⟨a1, b1, c1, ⟨a2, b2, ⟨a3, v, c3, d3⟩, d2⟩⟩, d0⟩, hi⟩) c2) d1) c0) lo) fr
noncomputable def s186 (v : FV) (fr : Fr) : Fr := Fr.rec (fun lo hi => Q.rec (fun a0 b0 c0 d0 => Q.rec (fun a1 b1 c1 d1 => Q.rec (fun a2 b2 c2 d2 => Q.rec (fun a3 b3 _ d3 => ⟨⟨a0, b0, ⟨a1, b1, c1, ⟨a2, b2, ⟨a3, b3, v, d3⟩, d2⟩⟩, d0⟩, hi⟩) c2) d1) c0) lo) fr
noncomputable def s187 (v : FV) (fr : Fr) : Fr := Fr.rec (fun lo hi => Q.rec (fun a0 b0 c0 d0 => Q.rec (fun a1 b1 c1 d1 => Q.rec (fun a2 b2 c2 d2 => Q.rec (fun a3 b3 c3 _ => ⟨⟨a0, b0, ⟨a1, b1, c1, ⟨a2, b2, ⟨a3, b3, c3, v⟩, d2⟩⟩, d0⟩, hi⟩) c2) d1) c0) lo) fr
noncomputable def s188 (v : FV) (fr : Fr) : Fr := Fr.rec (fun lo hi => Q.rec (fun a0 b0 c0 d0 => Q.rec (fun a1 b1 c1 d1 => Q.rec (fun a2 b2 c2 d2 => Q.rec (fun _ b3 c3 d3 => ⟨⟨a0, b0, ⟨a1, b1, c1, ⟨a2, b2, c2, ⟨v, b3, c3, d3⟩⟩⟩, d0⟩, hi⟩) d2) d1) c0) lo) fr
noncomputable def s189 (v : FV) (fr : Fr) : Fr := Fr.rec (fun lo hi => Q.rec (fun a0 b0 c0 d0 => Q.rec (fun a1 b1 c1 d1 => Q.rec (fun a2 b2 c2 d2 => Q.rec (fun a3 _ c3 d3 => ⟨⟨a0, b0, ⟨a1, b1, c1, ⟨a2, b2, c2, ⟨a3, v, c3, d3⟩⟩⟩, d0⟩, hi⟩) d2) d1) c0) lo) fr
noncomputable def s190 (v : FV) (fr : Fr) : Fr := Fr.rec (fun lo hi => Q.rec (fun a0 b0 c0 d0 => Q.rec (fun a1 b1 c1 d1 => Q.rec (fun a2 b2 c2 d2 => Q.rec (fun a3 b3 _ d3 => ⟨⟨a0, b0, ⟨a1, b1, c1, ⟨a2, b2, c2, ⟨a3, b3, v, d3⟩⟩⟩, d0⟩, hi⟩) d2) d1) c0) lo) fr
noncomputable def s191 (v : FV) (fr : Fr) : Fr := Fr.rec (fun lo hi => Q.rec (fun a0 b0 c0 d0 => Q.rec (fun a1 b1 c1 d1 => Q.rec (fun a2 b2 c2 d2 => Q.rec (fun a3 b3 c3 _ => ⟨⟨a0, b0, ⟨a1, b1, c1, ⟨a2, b2, c2, ⟨a3, b3, c3, v⟩⟩⟩, d0⟩, hi⟩) d2) d1) c0) lo) fr
noncomputable def s192 (v : FV) (fr : Fr) : Fr := Fr.rec (fun lo hi => Q.rec (fun a0 b0 c0 d0 => Q.rec (fun a1 b1 c1 d1 => Q.rec (fun a2 b2 c2 d2 => Q.rec (fun _ b3 c3 d3 => ⟨⟨a0, b0, c0, ⟨⟨⟨v, b3, c3, d3⟩, b2, c2, d2⟩, b1, c1, d1⟩⟩, hi⟩) a2) a1) d0) lo) fr
noncomputable def s193 (v : FV) (fr : Fr) : Fr := Fr.rec (fun lo hi => Q.rec (fun a0 b0 c0 d0 => Q.rec (fun a1 b1 c1 d1 => Q.rec (fun a2 b2 c2 d2 => Q.rec (fun a3 _ c3 d3 => ⟨⟨a0, b0, c0, ⟨⟨⟨a3, v, c3, d3⟩, b2, c2, d2⟩, b1, c1, d1⟩⟩, hi⟩) a2) a1) d0) lo) fr
noncomputable def s194 (v : FV) (fr : Fr) : Fr := Fr.rec (fun lo hi => Q.rec (fun a0 b0 c0 d0 => Q.rec (fun a1 b1 c1 d1 => Q.rec (fun a2 b2 c2 d2 => Q.rec (fun a3 b3 _ d3 => ⟨⟨a0, b0, c0, ⟨⟨⟨a3, b3, v, d3⟩, b2, c2, d2⟩, b1, c1, d1⟩⟩, hi⟩) a2) a1) d0) lo) fr
noncomputable def s195 (v : FV) (fr : Fr) : Fr := Fr.rec (fun lo hi => Q.rec (fun a0 b0 c0 d0 => Q.rec (fun a1 b1 c1 d1 => Q.rec (fun a2 b2 c2 d2 => Q.rec (fun a3 b3 c3 _ => ⟨⟨a0, b0, c0, ⟨⟨⟨a3, b3, c3, v⟩, b2, c2, d2⟩, b1, c1, d1⟩⟩, hi⟩) a2) a1) d0) lo) fr
noncomputable def s196 (v : FV) (fr : Fr) : Fr := Fr.rec (fun lo hi => Q.rec (fun a0 b0 c0 d0 => Q.rec (fun a1 b1 c1 d1 => Q.rec (fun a2 b2 c2 d2 => Q.rec (fun _ b3 c3 d3 => ⟨⟨a0, b0, c0, ⟨⟨a2, ⟨v, b3, c3, d3⟩, c2, d2⟩, b1, c1, d1⟩⟩, hi⟩) b2) a1) d0) lo) fr
noncomputable def s197 (v : FV) (fr : Fr) : Fr := Fr.rec (fun lo hi => Q.rec (fun a0 b0 c0 d0 => Q.rec (fun a1 b1 c1 d1 => Q.rec (fun a2 b2 c2 d2 => Q.rec (fun a3 _ c3 d3 => ⟨⟨a0, b0, c0, ⟨⟨a2, ⟨a3, v, c3, d3⟩, c2, d2⟩, b1, c1, d1⟩⟩, hi⟩) b2) a1) d0) lo) fr
noncomputable def s198 (v : FV) (fr : Fr) : Fr := Fr.rec (fun lo hi => Q.rec (fun a0 b0 c0 d0 => Q.rec (fun a1 b1 c1 d1 => Q.rec (fun a2 b2 c2 d2 => Q.rec (fun a3 b3 _ d3 => ⟨⟨a0, b0, c0, ⟨⟨a2, ⟨a3, b3, v, d3⟩, c2, d2⟩, b1, c1, d1⟩⟩, hi⟩) b2) a1) d0) lo) fr
noncomputable def s199 (v : FV) (fr : Fr) : Fr := Fr.rec (fun lo hi => Q.rec (fun a0 b0 c0 d0 => Q.rec (fun a1 b1 c1 d1 => Q.rec (fun a2 b2 c2 d2 => Q.rec (fun a3 b3 c3 _ => ⟨⟨a0, b0, c0, ⟨⟨a2, ⟨a3, b3, c3, v⟩, c2, d2⟩, b1, c1, d1⟩⟩, hi⟩) b2) a1) d0) lo) fr
noncomputable def s200 (v : FV) (fr : Fr) : Fr := Fr.rec (fun lo hi => Q.rec (fun a0 b0 c0 d0 => Q.rec (fun a1 b1 c1 d1 => Q.rec (fun a2 b2 c2 d2 => Q.rec (fun _ b3 c3 d3 => ⟨⟨a0, b0, c0, ⟨⟨a2, b2, ⟨v, b3, c3, d3⟩, d2⟩, b1, c1, d1⟩⟩, hi⟩) c2) a1) d0) lo) fr
noncomputable def s201 (v : FV) (fr : Fr) : Fr := Fr.rec (fun lo hi => Q.rec (fun a0 b0 c0 d0 => Q.rec (fun a1 b1 c1 d1 => Q.rec (fun a2 b2 c2 d2 => Q.rec (fun a3 _ c3 d3 => ⟨⟨a0, b0, c0, ⟨⟨a2, b2, ⟨a3, v, c3, d3⟩, d2⟩, b1, c1, d1⟩⟩, hi⟩) c2) a1) d0) lo) fr
noncomputable def s202 (v : FV) (fr : Fr) : Fr := Fr.rec (fun lo hi => Q.rec (fun a0 b0 c0 d0 => Q.rec (fun a1 b1 c1 d1 => Q.rec (fun a2 b2 c2 d2 => Q.rec (fun a3 b3 _ d3 => ⟨⟨a0, b0, c0, ⟨⟨a2, b2, ⟨a3, b3, v, d3⟩, d2⟩, b1, c1, d1⟩⟩, hi⟩) c2) a1) d0) lo) fr
noncomputable def s203 (v : FV) (fr : Fr) : Fr := Fr.rec (fun lo hi => Q.rec (fun a0 b0 c0 d0 => Q.rec (fun a1 b1 c1 d1 => Q.rec (fun a2 b2 c2 d2 => Q.rec (fun a3 b3 c3 _ => ⟨⟨a0, b0, c0, ⟨⟨a2, b2, ⟨a3, b3, c3, v⟩, d2⟩, b1, c1, d1⟩⟩, hi⟩) c2) a1) d0) lo) fr
noncomputable def s204 (v : FV) (fr : Fr) : Fr := Fr.rec (fun lo hi => Q.rec (fun a0 b0 c0 d0 => Q.rec (fun a1 b1 c1 d1 => Q.rec (fun a2 b2 c2 d2 => Q.rec (fun _ b3 c3 d3 => ⟨⟨a0, b0, c0, ⟨⟨a2, b2, c2, ⟨v, b3, c3, d3⟩⟩, b1, c1, d1⟩⟩, hi⟩) d2) a1) d0) lo) fr
noncomputable def s205 (v : FV) (fr : Fr) : Fr := Fr.rec (fun lo hi => Q.rec (fun a0 b0 c0 d0 => Q.rec (fun a1 b1 c1 d1 => Q.rec (fun a2 b2 c2 d2 => Q.rec (fun a3 _ c3 d3 => ⟨⟨a0, b0, c0, ⟨⟨a2, b2, c2, ⟨a3, v, c3, d3⟩⟩, b1, c1, d1⟩⟩, hi⟩) d2) a1) d0) lo) fr
noncomputable def s206 (v : FV) (fr : Fr) : Fr := Fr.rec (fun lo hi => Q.rec (fun a0 b0 c0 d0 => Q.rec (fun a1 b1 c1 d1 => Q.rec (fun a2 b2 c2 d2 => Q.rec (fun a3 b3 _ d3 => ⟨⟨a0, b0, c0, ⟨⟨a2, b2, c2, ⟨a3, b3, v, d3⟩⟩, b1, c1, d1⟩⟩, hi⟩) d2) a1) d0) lo) fr
noncomputable def s207 (v : FV) (fr : Fr) : Fr := Fr.rec (fun lo hi => Q.rec (fun a0 b0 c0 d0 => Q.rec (fun a1 b1 c1 d1 => Q.rec (fun a2 b2 c2 d2 => Q.rec (fun a3 b3 c3 _ => ⟨⟨a0, b0, c0, ⟨⟨a2, b2, c2, ⟨a3, b3, c3, v⟩⟩, b1, c1, d1⟩⟩, hi⟩) d2) a1) d0) lo) fr
noncomputable def s208 (v : FV) (fr : Fr) : Fr := Fr.rec (fun lo hi => Q.rec (fun a0 b0 c0 d0 => Q.rec (fun a1 b1 c1 d1 => Q.rec (fun a2 b2 c2 d2 => Q.rec (fun _ b3 c3 d3 => ⟨⟨a0, b0, c0, ⟨a1, ⟨⟨v, b3, c3, d3⟩, b2, c2, d2⟩, c1, d1⟩⟩, hi⟩) a2) b1) d0) lo) fr
noncomputable def s209 (v : FV) (fr : Fr) : Fr := Fr.rec (fun lo hi => Q.rec (fun a0 b0 c0 d0 => Q.rec (fun a1 b1 c1 d1 => Q.rec (fun a2 b2 c2 d2 => Q.rec (fun a3 _ c3 d3 => ⟨⟨a0, b0, c0, ⟨a1, ⟨⟨a3, v, c3, d3⟩, b2, c2, d2⟩, c1, d1⟩⟩, hi⟩) a2) b1) d0) lo) fr
noncomputable def s210 (v : FV) (fr : Fr) : Fr := Fr.rec (fun lo hi => Q.rec (fun a0 b0 c0 d0 => Q.rec (fun a1 b1 c1 d1 => Q.rec (fun a2 b2 c2 d2 => Q.rec (fun a3 b3 _ d3 => ⟨⟨a0, b0, c0, ⟨a1, ⟨⟨a3, b3, v, d3⟩, b2, c2, d2⟩, c1, d1⟩⟩, hi⟩) a2) b1) d0) lo) fr
noncomputable def s211 (v : FV) (fr : Fr) : Fr := Fr.rec (fun lo hi => Q.rec (fun a0 b0 c0 d0 => Q.rec (fun a1 b1 c1 d1 => Q.rec (fun a2 b2 c2 d2 => Q.rec (fun a3 b3 c3 _ => ⟨⟨a0, b0, c0, ⟨a1, ⟨⟨a3, b3, c3, v⟩, b2, c2, d2⟩, c1, d1⟩⟩, hi⟩) a2) b1) d0) lo) fr
noncomputable def s212 (v : FV) (fr : Fr) : Fr := Fr.rec (fun lo hi => Q.rec (fun a0 b0 c0 d0 => Q.rec (fun a1 b1 c1 d1 => Q.rec (fun a2 b2 c2 d2 => Q.rec (fun _ b3 c3 d3 => ⟨⟨a0, b0, c0, ⟨a1, ⟨a2, ⟨v, b3, c3, d3⟩, c2, d2⟩, c1, d1⟩⟩, hi⟩) b2) b1) d0) lo) fr
noncomputable def s213 (v : FV) (fr : Fr) : Fr := Fr.rec (fun lo hi => Q.rec (fun a0 b0 c0 d0 => Q.rec (fun a1 b1 c1 d1 => Q.rec (fun a2 b2 c2 d2 => Q.rec (fun a3 _ c3 d3 => ⟨⟨a0, b0, c0, ⟨a1, ⟨a2, ⟨a3, v, c3, d3⟩, c2, d2⟩, c1, d1⟩⟩, hi⟩) b2) b1) d0) lo) fr
noncomputable def s214 (v : FV) (fr : Fr) : Fr := Fr.rec (fun lo hi => Q.rec (fun a0 b0 c0 d0 => Q.rec (fun a1 b1 c1 d1 => Q.rec (fun a2 b2 c2 d2 => Q.rec (fun a3 b3 _ d3 => ⟨⟨a0, b0, c0, ⟨a1, ⟨a2, ⟨a3, b3, v, d3⟩, c2, d2⟩, c1, d1⟩⟩, hi⟩) b2) b1) d0) lo) fr
noncomputable def s215 (v : FV) (fr : Fr) : Fr := Fr.rec (fun lo hi => Q.rec (fun a0 b0 c0 d0 => Q.rec (fun a1 b1 c1 d1 => Q.rec (fun a2 b2 c2 d2 => Q.rec (fun a3 b3 c3 _ => ⟨⟨a0, b0, c0, ⟨a1, ⟨a2, ⟨a3, b3, c3, v⟩, c2, d2⟩, c1, d1⟩⟩, hi⟩) b2) b1) d0) lo) fr
noncomputable def s216 (v : FV) (fr : Fr) : Fr := Fr.rec (fun lo hi => Q.rec (fun a0 b0 c0 d0 => Q.rec (fun a1 b1 c1 d1 => Q.rec (fun a2 b2 c2 d2 => Q.rec (fun _ b3 c3 d3 => ⟨⟨a0, b0, c0, ⟨a1, ⟨a2, b2, ⟨v, b3, c3, d3⟩, d2⟩, c1, d1⟩⟩, hi⟩) c2) b1) d0) lo) fr
noncomputable def s217 (v : FV) (fr : Fr) : Fr := Fr.rec (fun lo hi => Q.rec (fun a0 b0 c0 d0 => Q.rec (fun a1 b1 c1 d1 => Q.rec (fun a2 b2 c2 d2 => Q.rec (fun a3 _ c3 d3 => ⟨⟨a0, b0, c0, ⟨a1, ⟨a2, b2, ⟨a3, v, c3, d3⟩, d2⟩, c1, d1⟩⟩, hi⟩) c2) b1) d0) lo) fr
noncomputable def s218 (v : FV) (fr : Fr) : Fr := Fr.rec (fun lo hi => Q.rec (fun a0 b0 c0 d0 => Q.rec (fun a1 b1 c1 d1 => Q.rec (fun a2 b2 c2 d2 => Q.rec (fun a3 b3 _ d3 => ⟨⟨a0, b0, c0, ⟨a1, ⟨a2, b2, ⟨a3, b3, v, d3⟩, d2⟩, c1, d1⟩⟩, hi⟩) c2) b1) d0) lo) fr
noncomputable def s219 (v : FV) (fr : Fr) : Fr := Fr.rec (fun lo hi => Q.rec (fun a0 b0 c0 d0 => Q.rec (fun a1 b1 c1 d1 => Q.rec (fun a2 b2 c2 d2 => Q.rec (fun a3 b3 c3 _ => ⟨⟨a0, b0, c0, ⟨a1, ⟨a2, b2, ⟨a3, b3, c3, v⟩, d2⟩, c1, d1⟩⟩, hi⟩) c2) b1) d0) lo) fr
noncomputable def s220 (v : FV) (fr : Fr) : Fr := Fr.rec (fun lo hi => Q.rec (fun a0 b0 c0 d0 => Q.rec (fun a1 b1 c1 d1 => Q.rec (fun a2 b2 c2 d2 => Q.rec (fun _ b3 c3 d3 => ⟨⟨a0, b0, c0, ⟨a1, ⟨a2, b2, c2, ⟨v, b3, c3, d3⟩⟩, c1, d1⟩⟩, hi⟩) d2) b1) d0) lo) fr
noncomputable def s221 (v : FV) (fr : Fr) : Fr := Fr.rec (fun lo hi => Q.rec (fun a0 b0 c0 d0 => Q.rec (fun a1 b1 c1 d1 => Q.rec (fun a2 b2 c2 d2 => Q.rec (fun a3 _ c3 d3 => ⟨⟨a0, b0, c0, ⟨a1, ⟨a2, b2, c2, ⟨a3, v, c3, d3⟩⟩, c1, d1⟩⟩, hi⟩) d2) b1) d0) lo) fr
noncomputable def s222 (v : FV) (fr : Fr) : Fr := Fr.rec (fun lo hi => Q.rec (fun a0 b0 c0 d0 => Q.rec (fun a1 b1 c1 d1 => Q.rec (fun a2 b2 c2 d2 => Q.rec (fun a3 b3 _ d3 => ⟨⟨a0, b0, c0, ⟨a1, ⟨a2, b2, c2, ⟨a3, b3, v, d3⟩⟩, c1, d1⟩⟩, hi⟩) d2) b1) d0) lo) fr
noncomputable def s223 (v : FV) (fr : Fr) : Fr := Fr.rec (fun lo hi => Q.rec (fun a0 b0 c0 d0 => Q.rec (fun a1 b1 c1 d1 => Q.rec (fun a2 b2 c2 d2 => Q.rec (fun a3 b3 c3 _ => ⟨⟨a0, b0, c0, ⟨a1, ⟨a2, b2, c2, ⟨a3, b3, c3, v⟩⟩, c1, d1⟩⟩, hi⟩) d2) b1) d0) lo) fr
noncomputable def s224 (v : FV) (fr : Fr) : Fr := Fr.rec (fun lo hi => Q.rec (fun a0 b0 c0 d0 => Q.rec (fun a1 b1 c1 d1 => Q.rec (fun a2 b2 c2 d2 => Q.rec (fun _ b3 c3 d3 => ⟨⟨a0, b0, c0, ⟨a1, b1, ⟨⟨v, b3, c3, d3⟩, b2, c2, d2⟩, d1⟩⟩, hi⟩) a2) c1) d0) lo) fr
noncomputable def s225 (v : FV) (fr : Fr) : Fr := Fr.rec (fun lo hi => Q.rec (fun a0 b0 c0 d0 => Q.rec (fun a1 b1 c1 d1 => Q.rec (fun a2 b2 c2 d2 => Q.rec (fun a3 _ c3 d3 => ⟨⟨a0, b0, c0, ⟨a1, b1, ⟨⟨a3, v, c3, d3⟩, b2, c2, d2⟩, d1⟩⟩, hi⟩) a2) c1) d0) lo) fr
noncomputable def s226 (v : FV) (fr : Fr) : Fr := Fr.rec (fun lo hi => Q.rec (fun a0 b0 c0 d0 => Q.rec (fun a1 b1 c1 d1 => Q.rec (fun a2 b2 c2 d2 => Q.rec (fun a3 b3 _ d3 => ⟨⟨a0, b0, c0, ⟨a1, b1, ⟨⟨a3, b3, v, d3⟩, b2, c2, d2⟩, d1⟩⟩, hi⟩) a2) c1) d0) lo) fr
noncomputable def s227 (v : FV) (fr : Fr) : Fr := Fr.rec (fun lo hi => Q.rec (fun a0 b0 c0 d0 => Q.rec (fun a1 b1 c1 d1 => Q.rec (fun a2 b2 c2 d2 => Q.rec (fun a3 b3 c3 _ => ⟨⟨a0, b0, c0, ⟨a1, b1, ⟨⟨a3, b3, c3, v⟩, b2, c2, d2⟩, d1⟩⟩, hi⟩) a2) c1) d0) lo) fr
noncomputable def s228 (v : FV) (fr : Fr) : Fr := Fr.rec (fun lo hi => Q.rec (fun a0 b0 c0 d0 => Q.rec (fun a1 b1 c1 d1 => Q.rec (fun a2 b2 c2 d2 => Q.rec (fun _ b3 c3 d3 => ⟨⟨a0, b0, c0, ⟨a1, b1, ⟨a2, ⟨v, b3, c3, d3⟩, c2, d2⟩, d1⟩⟩, hi⟩) b2) c1) d0) lo) fr
noncomputable def s229 (v : FV) (fr : Fr) : Fr := Fr.rec (fun lo hi => Q.rec (fun a0 b0 c0 d0 => Q.rec (fun a1 b1 c1 d1 => Q.rec (fun a2 b2 c2 d2 => Q.rec (fun a3 _ c3 d3 => ⟨⟨a0, b0, c0, ⟨a1, b1, ⟨a2, ⟨a3, v, c3, d3⟩, c2, d2⟩, d1⟩⟩, hi⟩) b2) c1) d0) lo) fr
noncomputable def s230 (v : FV) (fr : Fr) : Fr := Fr.rec (fun lo hi => Q.rec (fun a0 b0 c0 d0 => Q.rec (fun a1 b1 c1 d1 => Q.rec (fun a2 b2 c2 d2 => Q.rec (fun a3 b3 _ d3 => ⟨⟨a0, b0, c0, ⟨a1, b1, ⟨a2, ⟨a3, b3, v, d3⟩, c2, d2⟩, d1⟩⟩, hi⟩) b2) c1) d0) lo) fr
noncomputable def s231 (v : FV) (fr : Fr) : Fr := Fr.rec (fun lo hi => Q.rec (fun a0 b0 c0 d0 => Q.rec (fun a1 b1 c1 d1 => Q.rec (fun a2 b2 c2 d2 => Q.rec (fun a3 b3 c3 _ => ⟨⟨a0, b0, c0, ⟨a1, b1, ⟨a2, ⟨a3, b3, c3, v⟩, c2, d2⟩, d1⟩⟩, hi⟩) b2) c1) d0) lo) fr
noncomputable def s232 (v : FV) (fr : Fr) : Fr := Fr.rec (fun lo hi => Q.rec (fun a0 b0 c0 d0 => Q.rec (fun a1 b1 c1 d1 => Q.rec (fun a2 b2 c2 d2 => Q.rec (fun _ b3 c3 d3 => ⟨⟨a0, b0, c0, ⟨a1, b1, ⟨a2, b2, ⟨v, b3, c3, d3⟩, d2⟩, d1⟩⟩, hi⟩) c2) c1) d0) lo) fr
noncomputable def s233 (v : FV) (fr : Fr) : Fr := Fr.rec (fun lo hi => Q.rec (fun a0 b0 c0 d0 => Q.rec (fun a1 b1 c1 d1 => Q.rec (fun a2 b2 c2 d2 => Q.rec (fun a3 _ c3 d3 => ⟨⟨a0, b0, c0, ⟨a1, b1, ⟨a2, b2, ⟨a3, v, c3, d3⟩, d2⟩, d1⟩⟩, hi⟩) c2) c1) d0) lo) fr
noncomputable def s234 (v : FV) (fr : Fr) : Fr := Fr.rec (fun lo hi => Q.rec (fun a0 b0 c0 d0 => Q.rec (fun a1 b1 c1 d1 => Q.rec (fun a2 b2 c2 d2 => Q.rec (fun a3 b3 _ d3 => ⟨⟨a0, b0, c0, ⟨a1, b1, ⟨a2, b2, ⟨a3, b3, v, d3⟩, d2⟩, d1⟩⟩, hi⟩) c2) c1) d0) lo) fr
noncomputable def s235 (v : FV) (fr : Fr) : Fr := Fr.rec (fun lo hi => Q.rec (fun a0 b0 c0 d0 => Q.rec (fun a1 b1 c1 d1 => Q.rec (fun a2 b2 c2 d2 => Q.rec (fun a3 b3 c3 _ => ⟨⟨a0, b0, c0, ⟨a1, b1, ⟨a2, b2, ⟨a3, b3, c3, v⟩, d2⟩, d1⟩⟩, hi⟩) c2) c1) d0) lo) fr
noncomputable def s236 (v : FV) (fr : Fr) : Fr := Fr.rec (fun lo hi => Q.rec (fun a0 b0 c0 d0 => Q.rec (fun a1 b1 c1 d1 => Q.rec (fun a2 b2 c2 d2 => Q.rec (fun _ b3 c3 d3 => ⟨⟨a0, b0, c0, ⟨a1, b1, ⟨a2, b2, c2, ⟨v, b3, c3, d3⟩⟩, d1⟩⟩, hi⟩) d2) c1) d0) lo) fr
noncomputable def s237 (v : FV) (fr : Fr) : Fr := Fr.rec (fun lo hi => Q.rec (fun a0 b0 c0 d0 => Q.rec (fun a1 b1 c1 d1 => Q.rec (fun a2 b2 c2 d2 => Q.rec (fun a3 _ c3 d3 => ⟨⟨a0, b0, c0, ⟨a1, b1, ⟨a2, b2, c2, ⟨a3, v, c3, d3⟩⟩, d1⟩⟩, hi⟩) d2) c1) d0) lo) fr
noncomputable def s238 (v : FV) (fr : Fr) : Fr := Fr.rec (fun lo hi => Q.rec (fun a0 b0 c0 d0 => Q.rec (fun a1 b1 c1 d1 => Q.rec (fun a2 b2 c2 d2 => Q.rec (fun a3 b3 _ d3 => ⟨⟨a0, b0, c0, ⟨a1, b1, ⟨a2, b2, c2, ⟨a3, b3, v, d3⟩⟩, d1⟩⟩, hi⟩) d2) c1) d0) lo) fr
noncomputable def s239 (v : FV) (fr : Fr) : Fr := Fr.rec (fun lo hi => Q.rec (fun a0 b0 c0 d0 => Q.rec (fun a1 b1 c1 d1 => Q.rec (fun a2 b2 c2 d2 => Q.rec (fun a3 b3 c3 _ => ⟨⟨a0, b0, c0, ⟨a1, b1, ⟨a2, b2, c2, ⟨a3, b3, c3, v⟩⟩, d1⟩⟩, hi⟩) d2) c1) d0) lo) fr
noncomputable def s240 (v : FV) (fr : Fr) : Fr := Fr.rec (fun lo hi => Q.rec (fun a0 b0 c0 d0 => Q.rec (fun a1 b1 c1 d1 => Q.rec (fun a2 b2 c2 d2 => Q.rec (fun _ b3 c3 d3 => ⟨⟨a0, b0, c0, ⟨a1, b1, c1, ⟨⟨v, b3, c3, d3⟩, b2, c2, d2⟩⟩⟩, hi⟩) a2) d1) d0) lo) fr
noncomputable def s241 (v : FV) (fr : Fr) : Fr := Fr.rec (fun lo hi => Q.rec (fun a0 b0 c0 d0 => Q.rec (fun a1 b1 c1 d1 => Q.rec (fun a2 b2 c2 d2 => Q.rec (fun a3 _ c3 d3 => ⟨⟨a0, b0, c0, ⟨a1, b1, c1, ⟨⟨a3, v, c3, d3⟩, b2, c2, d2⟩⟩⟩, hi⟩) a2) d1) d0) lo) fr
noncomputable def s242 (v : FV) (fr : Fr) : Fr := Fr.rec (fun lo hi => Q.rec (fun a0 b0 c0 d0 => Q.rec (fun a1 b1 c1 d1 => Q.rec (fun a2 b2 c2 d2 => Q.rec (fun a3 b3 _ d3 => ⟨⟨a0, b0, c0, ⟨a1, b1, c1, ⟨⟨a3, b3, v, d3⟩, b2, c2, d2⟩⟩⟩, hi⟩) a2) d1) d0) lo) fr
noncomputable def s243 (v : FV) (fr : Fr) : Fr := Fr.rec (fun lo hi => Q.rec (fun a0 b0 c0 d0 => Q.rec (fun a1 b1 c1 d1 => Q.rec (fun a2 b2 c2 d2 => Q.rec (fun a3 b3 c3 _ => ⟨⟨a0, b0, c0, ⟨a1, b1, c1, ⟨⟨a3, b3, c3, v⟩, b2, c2, d2⟩⟩⟩, hi⟩) a2) d1) d0) lo) fr
noncomputable def s244 (v : FV) (fr : Fr) : Fr := Fr.rec (fun lo hi => Q.rec (fun a0 b0 c0 d0 => Q.rec (fun a1 b1 c1 d1 => Q.rec (fun a2 b2 c2 d2 => Q.rec (fun _ b3 c3 d3 => ⟨⟨a0, b0, c0, ⟨a1, b1, c1, ⟨a2, ⟨v, b3, c3, d3⟩, c2, d2⟩⟩⟩, hi⟩) b2) d1) d0) lo) fr
noncomputable def s245 (v : FV) (fr : Fr) : Fr := Fr.rec (fun lo hi => Q.rec (fun a0 b0 c0 d0 => Q.rec (fun a1 b1 c1 d1 => Q.rec (fun a2 b2 c2 d2 => Q.rec (fun a3 _ c3 d3 => ⟨⟨a0, b0, c0, ⟨a1, b1, c1, ⟨a2, ⟨a3, v, c3, d3⟩, c2, d2⟩⟩⟩, hi⟩) b2) d1) d0) lo) fr
noncomputable def s246 (v : FV) (fr : Fr) : Fr := Fr.rec (fun lo hi => Q.rec (fun a0 b0 c0 d0 => Q.rec (fun a1 b1 c1 d1 => Q.rec (fun a2 b2 c2 d2 => Q.rec (fun a3 b3 _ d3 => ⟨⟨a0, b0, c0, ⟨a1, b1, c1, ⟨a2, ⟨a3, b3, v, d3⟩, c2, d2⟩⟩⟩, hi⟩) b2) d1) d0) lo) fr
noncomputable def s247 (v : FV) (fr : Fr) : Fr := Fr.rec (fun lo hi => Q.rec (fun a0 b0 c0 d0 => Q.rec (fun a1 b1 c1 d1 => Q.rec (fun a2 b2 c2 d2 => Q.rec (fun a3 b3 c3 _ => ⟨⟨a0, b0, c0, ⟨a1, b1, c1, ⟨a2, ⟨a3, b3, c3, v⟩, c2, d2⟩⟩⟩, hi⟩) b2) d1) d0) lo) fr
noncomputable def s248 (v : FV) (fr : Fr) : Fr := Fr.rec (fun lo hi => Q.rec (fun a0 b0 c0 d0 => Q.rec (fun a1 b1 c1 d1 => Q.rec (fun a2 b2 c2 d2 => Q.rec (fun _ b3 c3 d3 => ⟨⟨a0, b0, c0, ⟨a1, b1, c1, ⟨a2, b2, ⟨v, b3, c3, d3⟩, d2⟩⟩⟩, hi⟩) c2) d1) d0) lo) fr
noncomputable def s249 (v : FV) (fr : Fr) : Fr := Fr.rec (fun lo hi => Q.rec (fun a0 b0 c0 d0 => Q.rec (fun a1 b1 c1 d1 => Q.rec (fun a2 b2 c2 d2 => Q.rec (fun a3 _ c3 d3 => ⟨⟨a0, b0, c0, ⟨a1, b1, c1, ⟨a2, b2, ⟨a3, v, c3, d3⟩, d2⟩⟩⟩, hi⟩) c2) d1) d0) lo) fr
noncomputable def s250 (v : FV) (fr : Fr) : Fr := Fr.rec (fun lo hi => Q.rec (fun a0 b0 c0 d0 => Q.rec (fun a1 b1 c1 d1 => Q.rec (fun a2 b2 c2 d2 => Q.rec (fun a3 b3 _ d3 => ⟨⟨a0, b0, c0, ⟨a1, b1, c1, ⟨a2, b2, ⟨a3, b3, v, d3⟩, d2⟩⟩⟩, hi⟩) c2) d1) d0) lo) fr
noncomputable def s251 (v : FV) (fr : Fr) : Fr := Fr.rec (fun lo hi => Q.rec (fun a0 b0 c0 d0 => Q.rec (fun a1 b1 c1 d1 => Q.rec (fun a2 b2 c2 d2 => Q.rec (fun a3 b3 c3 _ => ⟨⟨a0, b0, c0, ⟨a1, b1, c1, ⟨a2, b2, ⟨a3, b3, c3, v⟩, d2⟩⟩⟩, hi⟩) c2) d1) d0) lo) fr
noncomputable def s252 (v : FV) (fr : Fr) : Fr := Fr.rec (fun lo hi => Q.rec (fun a0 b0 c0 d0 => Q.rec (fun a1 b1 c1 d1 => Q.rec (fun a2 b2 c2 d2 => Q.rec (fun _ b3 c3 d3 => ⟨⟨a0, b0, c0, ⟨a1, b1, c1, ⟨a2, b2, c2, ⟨v, b3, c3, d3⟩⟩⟩⟩, hi⟩) d2) d1) d0) lo) fr
noncomputable def s253 (v : FV) (fr : Fr) : Fr := Fr.rec (fun lo hi => Q.rec (fun a0 b0 c0 d0 => Q.rec (fun a1 b1 c1 d1 => Q.rec (fun a2 b2 c2 d2 => Q.rec (fun a3 _ c3 d3 => ⟨⟨a0, b0, c0, ⟨a1, b1, c1, ⟨a2, b2, c2, ⟨a3, v, c3, d3⟩⟩⟩⟩, hi⟩) d2) d1) d0) lo) fr
noncomputable def s254 (v : FV) (fr : Fr) : Fr := Fr.rec (fun lo hi => Q.rec (fun a0 b0 c0 d0 => Q.rec (fun a1 b1 c1 d1 => Q.rec (fun a2 b2 c2 d2 => Q.rec (fun a3 b3 _ d3 => ⟨⟨a0, b0, c0, ⟨a1, b1, c1, ⟨a2, b2, c2, ⟨a3, b3, v, d3⟩⟩⟩⟩, hi⟩) d2) d1) d0) lo) fr
noncomputable def s255 (v : FV) (fr : Fr) : Fr := Fr.rec (fun lo hi => Q.rec (fun a0 b0 c0 d0 => Q.rec (fun a1 b1 c1 d1 => Q.rec (fun a2 b2 c2 d2 => Q.rec (fun a3 b3 c3 _ => ⟨⟨a0, b0, c0, ⟨a1, b1, c1, ⟨a2, b2, c2, ⟨a3, b3, c3, v⟩⟩⟩⟩, hi⟩) d2) d1) d0) lo) fr
inductive KX where
  | s (g : Fr → FV)
  | c (v : FV)
  | z
inductive KT where
  | s (g : FV → Fr → Fr)
  | z
noncomputable def getT (t : Nat) : KX := (Bool.rec (Bool.rec (Bool.rec (Bool.rec (Bool.rec (Bool.rec (Bool.rec (Bool.rec (.s g255) (.s g254) (Nat.ble t 254)) (Bool.rec (.s g253) (.s g252) (Nat.ble t 252)) (Nat.ble t 253)) (Bool.rec (Bool.rec (.s g251) (.s g250) (Nat.ble t 250)) (Bool.rec (.s g249) (.s g248) (Nat.ble t 248)) (Nat.ble t 249)) (Nat.ble t 251)) (Bool.rec (Bool.rec (Bool.rec (.s g247) (.s g246) (Nat.ble t 246)) (Bool.rec (.s g245) (.s g244) (Nat.ble t 244)) (Nat.ble t 245)) (Bool.rec (Bool.rec (.s g243) (.s g242) (Nat.ble t 242)) (Bool.rec (.s g241) (.s g240) (Nat.ble t 240)) (Nat.ble t 241)) (Nat.ble t 243)) (Nat.ble t 247)) (Bool.rec (Bool.rec (Bool.rec (Bool.rec (.s g239) (.s g238) (Nat.ble t 238)) (Bool.rec (.s g237) (.s g236) (Nat.ble t 236)) (Nat.ble t 237)) (Bool.rec (Bool.rec (.s g235) (.s g234) (Nat.ble t 234)) (Bool.rec (.s g233) (.s g232) (Nat.ble t 232)) (Nat.ble t 233)) (Nat.ble t 235)) (Bool.rec (Bool.rec (Bool.rec (.s g231) (.s g230) (Nat.ble t 230)) (Bool.rec (.s g229) (.s g228) (Nat.ble t 228)) (Nat.ble t 229)) (Bool.rec (Bool.rec (.s g227) (.s g226) (Nat.ble t 226)) (Bool.rec (.s g225) (.s g224) (Nat.ble t 224)) (Nat.ble t 225)) (Nat.ble t 227)) (Nat.ble t 231)) (Nat.ble t 239)) (Bool.rec (Bool.rec (Bool.rec (Bool.rec (Bool.rec (.s g223) (.s g222) (Nat.ble t 222)) (Bool.rec (.s g221) (.s g220) (Nat.ble t 220)) (Nat.ble t 221)) (Bool.rec (Bool.rec (.s g219) (.s g218) (Nat.ble t 218)) (Bool.rec (.s g217) (.s g216) (Nat.ble t 216)) (Nat.ble t 217)) (Nat.ble t 219)) (Bool.rec (Bool.rec (Bool.rec (.s g215) (.s g214) (Nat.ble t 214)) (Bool.rec (.s g213) (.s g212) (Nat.ble t 212)) (Nat.ble t 213)) (Bool.rec (Bool.rec (.s g211) (.s g210) (Nat.ble t 210)) (Bool.rec (.s g209) (.s g208) (Nat.ble t 208)) (Nat.ble t 209)) (Nat.ble t 211)) (Nat.ble t 215)) (Bool.rec (Bool.rec (Bool.rec (Bool.rec (.s g207) (.s g206) (Nat.ble t 206)) (Bool.rec (.s g205) (.s g204) (Nat.ble t 204)) (Nat.ble t 205)) (Bool.rec (Bool.rec (.s g203) (.s g202) (Nat.ble t 202)) (Bool.rec (.s g201) (.s g200) (Nat.ble t 200)) (Nat.ble t 201)) (Nat.ble t 203)) (Bool.rec (Bool.rec (Bool.rec (.s g199) (.s g198) (Nat.ble t 198)) (Bool.rec (.s g197) (.s g196) (Nat.ble t 196)) (Nat.ble t 197)) (Bool.rec (Bool.rec (.s g195) (.s g194) (Nat.ble t 194)) (Bool.rec (.s g193) (.s g192) (Nat.ble t 192)) (Nat.ble t 193)) (Nat.ble t 195)) (Nat.ble t 199)) (Nat.ble t 207)) (Nat.ble t 223)) (Bool.rec (Bool.rec (Bool.rec (Bool.rec (Bool.rec (Bool.rec (.s g191) (.s g190) (Nat.ble t 190)) (Bool.rec (.s g189) (.s g188) (Nat.ble t 188)) (Nat.ble t 189)) (Bool.rec (Bool.rec (.s g187) (.s g186) (Nat.ble t 186)) (Bool.rec (.s g185) (.s g184) (Nat.ble t 184)) (Nat.ble t 185)) (Nat.ble t 187)) (Bool.rec (Bool.rec (Bool.rec (.s g183) (.s g182) (Nat.ble t 182)) (Bool.rec (.s g181) (.s g180) (Nat.ble t 180)) (Nat.ble t 181)) (Bool.rec (Bool.rec (.s g179) (.s g178) (Nat.ble t 178)) (Bool.rec (.s g177) (.s g176) (Nat.ble t 176)) (Nat.ble t 177)) (Nat.ble t 179)) (Nat.ble t 183)) (Bool.rec (Bool.rec (Bool.rec (Bool.rec (.s g175) (.s g174) (Nat.ble t 174)) (Bool.rec (.s g173) (.s g172) (Nat.ble t 172)) (Nat.ble t 173)) (Bool.rec (Bool.rec (.s g171) (.s g170) (Nat.ble t 170)) (Bool.rec (.s g169) (.s g168) (Nat.ble t 168)) (Nat.ble t 169)) (Nat.ble t 171)) (Bool.rec (Bool.rec (Bool.rec (.s g167) (.s g166) (Nat.ble t 166)) (Bool.rec (.s g165) (.s g164) (Nat.ble t 164)) (Nat.ble t 165)) (Bool.rec (Bool.rec (.s g163) (.s g162) (Nat.ble t 162)) (Bool.rec (.s g161) (.s g160) (Nat.ble t 160)) (Nat.ble t 161)) (Nat.ble t 163)) (Nat.ble t 167)) (Nat.ble t 175)) (Bool.rec (Bool.rec (Bool.rec (Bool.rec (Bool.rec (.s g159) (.s g158) (Nat.ble t 158)) (Bool.rec (.s g157) (.s g156) (Nat.ble t 156)) (Nat.ble t 157)) (Bool.rec (Bool.rec (.s g155) (.s g154) (Nat.ble t 154)) (Bool.rec (.s g153) (.s g152) (Nat.ble t 152)) (Nat.ble t 153)) (Nat.ble t 155)) (Bool.rec (Bool.rec (Bool.rec (.s g151) (.s g150) (Nat.ble t 150)) (Bool.rec (.s g149) (.s g148) (Nat.ble t 148)) (Nat.ble t 149)) (Bool.rec (Bool.rec (.s g147) (.s g146) (Nat.ble t 146)) (Bool.rec (.s g145) (.s g144) (Nat.ble t 144)) (Nat.ble t 145)) (Nat.ble t 147)) (Nat.ble t 151)) (Bool.rec (Bool.rec (Bool.rec (Bool.rec (.s g143) (.s g142) (Nat.ble t 142)) (Bool.rec (.s g141) (.s g140) (Nat.ble t 140)) (Nat.ble t 141)) (Bool.rec (Bool.rec (.s g139) (.s g138) (Nat.ble t 138)) (Bool.rec (.s g137) (.s g136) (Nat.ble t 136)) (Nat.ble t 137)) (Nat.ble t 139)) (Bool.rec (Bool.rec (Bool.rec (.s g135) (.s g134) (Nat.ble t 134)) (Bool.rec (.s g133) (.s g132) (Nat.ble t 132)) (Nat.ble t 133)) (Bool.rec (Bool.rec (.s g131) (.s g130) (Nat.ble t 130)) (Bool.rec (.s g129) (.s g128) (Nat.ble t 128)) (Nat.ble t 129)) (Nat.ble t 131)) (Nat.ble t 135)) (Nat.ble t 143)) (Nat.ble t 159)) (Nat.ble t 191)) (Bool.rec (Bool.rec (Bool.rec (Bool.rec (Bool.rec (Bool.rec (Bool.rec (.s g127) (.s g126) (Nat.ble t 126)) (Bool.rec (.s g125) (.s g124) (Nat.ble t 124)) (Nat.ble t 125)) (Bool.rec (Bool.rec (.s g123) (.s g122) (Nat.ble t 122)) (Bool.rec (.s g121) (.s g120) (Nat.ble t 120)) (Nat.ble t 121)) (Nat.ble t 123)) (Bool.rec (Bool.rec (Bool.rec (.s g119) (.s g118) (Nat.ble t 118)) (Bool.rec (.s g117) (.s g116) (Nat.ble t 116)) (Nat.ble t 117)) (Bool.rec (Bool.rec (.s g115) (.s g114) (Nat.ble t 114)) (Bool.rec (.s g113) (.s g112) (Nat.ble t 112)) (Nat.ble t 113)) (Nat.ble t 115)) (Nat.ble t 119)) (Bool.rec (Bool.rec (Bool.rec (Bool.rec (.s g111) (.s g110) (Nat.ble t 110)) (Bool.rec (.s g109) (.s g108) (Nat.ble t 108)) (Nat.ble t 109)) (Bool.rec (Bool.rec (.s g107) (.s g106) (Nat.ble t 106)) (Bool.rec (.s g105) (.s g104) (Nat.ble t 104)) (Nat.ble t 105)) (Nat.ble t 107)) (Bool.rec (Bool.rec (Bool.rec (.s g103) (.s g102) (Nat.ble t 102)) (Bool.rec (.s g101) (.s g100) (Nat.ble t 100)) (Nat.ble t 101)) (Bool.rec (Bool.rec (.s g99) (.s g98) (Nat.ble t 98)) (Bool.rec (.s g97) (.s g96) (Nat.ble t 96)) (Nat.ble t 97)) (Nat.ble t 99)) (Nat.ble t 103)) (Nat.ble t 111)) (Bool.rec (Bool.rec (Bool.rec (Bool.rec (Bool.rec (.s g95) (.s g94) (Nat.ble t 94)) (Bool.rec (.s g93) (.s g92) (Nat.ble t 92)) (Nat.ble t 93)) (Bool.rec (Bool.rec (.s g91) (.s g90) (Nat.ble t 90)) (Bool.rec (.s g89) (.s g88) (Nat.ble t 88)) (Nat.ble t 89)) (Nat.ble t 91)) (Bool.rec (Bool.rec (Bool.rec (.s g87) (.s g86) (Nat.ble t 86)) (Bool.rec (.s g85) (.s g84) (Nat.ble t 84)) (Nat.ble t 85)) (Bool.rec (Bool.rec (.s g83) (.s g82) (Nat.ble t 82)) (Bool.rec (.s g81) (.s g80) (Nat.ble t 80)) (Nat.ble t 81)) (Nat.ble t 83)) (Nat.ble t 87)) (Bool.rec (Bool.rec (Bool.rec (Bool.rec (.s g79) (.s g78) (Nat.ble t 78)) (Bool.rec (.s g77) (.s g76) (Nat.ble t 76)) (Nat.ble t 77)) (Bool.rec (Bool.rec (.s g75) (.s g74) (Nat.ble t 74)) (Bool.rec (.s g73) (.s g72) (Nat.ble t 72)) (Nat.ble t 73)) (Nat.ble t 75)) (Bool.rec (Bool.rec (Bool.rec (.s g71) (.s g70) (Nat.ble t 70)) (Bool.rec (.s g69) (.s g68) (Nat.ble t 68)) (Nat.ble t 69)) (Bool.rec (Bool.rec (.s g67) (.s g66) (Nat.ble t 66)) (Bool.rec (.s g65) (.s g64) (Nat.ble t 64)) (Nat.ble t 65)) (Nat.ble t 67)) (Nat.ble t 71)) (Nat.ble t 79)) (Nat.ble t 95)) (Bool.rec (Bool.rec (Bool.rec (Bool.rec (Bool.rec (Bool.rec (.s g63) (.s g62) (Nat.ble t 62)) (Bool.rec (.s g61) (.s g60) (Nat.ble t 60)) (Nat.ble t 61)) (Bool.rec (Bool.rec (.s g59) (.s g58) (Nat.ble t 58)) (Bool.rec (.s g57) (.s g56) (Nat.ble t 56)) (Nat.ble t 57)) (Nat.ble t 59)) (Bool.rec (Bool.rec (Bool.rec (.s g55) (.s g54) (Nat.ble t 54)) (Bool.rec (.s g53) (.s g52) (Nat.ble t 52)) (Nat.ble t 53)) (Bool.rec (Bool.rec (.s g51) (.s g50) (Nat.ble t 50)) (Bool.rec (.s g49) (.s g48) (Nat.ble t 48)) (Nat.ble t 49)) (Nat.ble t 51)) (Nat.ble t 55)) (Bool.rec (Bool.rec (Bool.rec (Bool.rec (.s g47) (.s g46) (Nat.ble t 46)) (Bool.rec (.s g45) (.s g44) (Nat.ble t 44)) (Nat.ble t 45)) (Bool.rec (Bool.rec (.s g43) (.s g42) (Nat.ble t 42)) (Bool.rec (.s g41) (.s g40) (Nat.ble t 40)) (Nat.ble t 41)) (Nat.ble t 43)) (Bool.rec (Bool.rec (Bool.rec (.s g39) (.s g38) (Nat.ble t 38)) (Bool.rec (.s g37) (.s g36) (Nat.ble t 36)) (Nat.ble t 37)) (Bool.rec (Bool.rec (.s g35) (.s g34) (Nat.ble t 34)) (Bool.rec (.s g33) (.s g32) (Nat.ble t 32)) (Nat.ble t 33)) (Nat.ble t 35)) (Nat.ble t 39)) (Nat.ble t 47)) (Bool.rec (Bool.rec (Bool.rec (Bool.rec (Bool.rec (.s g31) (.s g30) (Nat.ble t 30)) (Bool.rec (.s g29) (.s g28) (Nat.ble t 28)) (Nat.ble t 29)) (Bool.rec (Bool.rec (.s g27) (.s g26) (Nat.ble t 26)) (Bool.rec (.s g25) (.s g24) (Nat.ble t 24)) (Nat.ble t 25)) (Nat.ble t 27)) (Bool.rec (Bool.rec (Bool.rec (.s g23) (.s g22) (Nat.ble t 22)) (Bool.rec (.s g21) (.s g20) (Nat.ble t 20)) (Nat.ble t 21)) (Bool.rec (Bool.rec (.s g19) (.s g18) (Nat.ble t 18)) (Bool.rec (.s g17) (.s g16) (Nat.ble t 16)) (Nat.ble t 17)) (Nat.ble t 19)) (Nat.ble t 23)) (Bool.rec (Bool.rec (Bool.rec (Bool.rec (.s g15) (.s g14) (Nat.ble t 14)) (Bool.rec (.s g13) (.s g12) (Nat.ble t 12)) (Nat.ble t 13)) (Bool.rec (Bool.rec (.s g11) (.s g10) (Nat.ble t 10)) (Bool.rec (.s g9) (.s g8) (Nat.ble t 8)) (Nat.ble t 9)) (Nat.ble t 11)) (Bool.rec (Bool.rec (Bool.rec (.s g7) (.s g6) (Nat.ble t 6)) (Bool.rec (.s g5) (.s g4) (Nat.ble t 4)) (Nat.ble t 5)) (Bool.rec (Bool.rec (.s g3) (.s g2) (Nat.ble t 2)) (Bool.rec (.s g1) (.s g0) (Nat.ble t 0)) (Nat.ble t 1)) (Nat.ble t 3)) (Nat.ble t 7)) (Nat.ble t 15)) (Nat.ble t 31)) (Nat.ble t 63)) (Nat.ble t 127))
noncomputable def setT (t : Nat) : KT := (Bool.rec (Bool.rec (Bool.rec (Bool.rec (Bool.rec (Bool.rec (Bool.rec (Bool.rec (.s s255) (.s s254) (Nat.ble t 254)) (Bool.rec (.s s253) (.s s252) (Nat.ble t 252)) (Nat.ble t 253)) (Bool.rec (Bool.rec (.s s251) (.s s250) (Nat.ble t 250)) (Bool.rec (.s s249) (.s s248) (Nat.ble t 248)) (Nat.ble t 249)) (Nat.ble t 251)) (Bool.rec (Bool.rec (Bool.rec (.s s247) (.s s246) (Nat.ble t 246)) (Bool.rec (.s s245) (.s s244) (Nat.ble t 244)) (Nat.ble t 245)) (Bool.rec (Bool.rec (.s s243) (.s s242) (Nat.ble t 242)) (Bool.rec (.s s241) (.s s240) (Nat.ble t 240)) (Nat.ble t 241)) (Nat.ble t 243)) (Nat.ble t 247)) (Bool.rec (Bool.rec (Bool.rec (Bool.rec (.s s239) (.s s238) (Nat.ble t 238)) (Bool.rec (.s s237) (.s s236) (Nat.ble t 236)) (Nat.ble t 237)) (Bool.rec (Bool.rec (.s s235) (.s s234) (Nat.ble t 234)) (Bool.rec (.s s233) (.s s232) (Nat.ble t 232)) (Nat.ble t 233)) (Nat.ble t 235)) (Bool.rec (Bool.rec (Bool.rec (.s s231) (.s s230) (Nat.ble t 230)) (Bool.rec (.s s229) (.s s228) (Nat.ble t 228)) (Nat.ble t 229)) (Bool.rec (Bool.rec (.s s227) (.s s226) (Nat.ble t 226)) (Bool.rec (.s s225) (.s s224) (Nat.ble t 224)) (Nat.ble t 225)) (Nat.ble t 227)) (Nat.ble t 231)) (Nat.ble t 239)) (Bool.rec (Bool.rec (Bool.rec (Bool.rec (Bool.rec (.s s223) (.s s222) (Nat.ble t 222)) (Bool.rec (.s s221) (.s s220) (Nat.ble t 220)) (Nat.ble t 221)) (Bool.rec (Bool.rec (.s s219) (.s s218) (Nat.ble t 218)) (Bool.rec (.s s217) (.s s216) (Nat.ble t 216)) (Nat.ble t 217)) (Nat.ble t 219)) (Bool.rec (Bool.rec (Bool.rec (.s s215) (.s s214) (Nat.ble t 214)) (Bool.rec (.s s213) (.s s212) (Nat.ble t 212)) (Nat.ble t 213)) (Bool.rec (Bool.rec (.s s211) (.s s210) (Nat.ble t 210)) (Bool.rec (.s s209) (.s s208) (Nat.ble t 208)) (Nat.ble t 209)) (Nat.ble t 211)) (Nat.ble t 215)) (Bool.rec (Bool.rec (Bool.rec (Bool.rec (.s s207) (.s s206) (Nat.ble t 206)) (Bool.rec (.s s205) (.s s204) (Nat.ble t 204)) (Nat.ble t 205)) (Bool.rec (Bool.rec (.s s203) (.s s202) (Nat.ble t 202)) (Bool.rec (.s s201) (.s s200) (Nat.ble t 200)) (Nat.ble t 201)) (Nat.ble t 203)) (Bool.rec (Bool.rec (Bool.rec (.s s199) (.s s198) (Nat.ble t 198)) (Bool.rec (.s s197) (.s s196) (Nat.ble t 196)) (Nat.ble t 197)) (Bool.rec (Bool.rec (.s s195) (.s s194) (Nat.ble t 194)) (Bool.rec (.s s193) (.s s192) (Nat.ble t 192)) (Nat.ble t 193)) (Nat.ble t 195)) (Nat.ble t 199)) (Nat.ble t 207)) (Nat.ble t 223)) (Bool.rec (Bool.rec (Bool.rec (Bool.rec (Bool.rec (Bool.rec (.s s191) (.s s190) (Nat.ble t 190)) (Bool.rec (.s s189) (.s s188) (Nat.ble t 188)) (Nat.ble t 189)) (Bool.rec (Bool.rec (.s s187) (.s s186) (Nat.ble t 186)) (Bool.rec (.s s185) (.s s184) (Nat.ble t 184)) (Nat.ble t 185)) (Nat.ble t 187)) (Bool.rec (Bool.rec (Bool.rec (.s s183) (.s s182) (Nat.ble t 182)) (Bool.rec (.s s181) (.s s180) (Nat.ble t 180)) (Nat.ble t 181)) (Bool.rec (Bool.rec (.s s179) (.s s178) (Nat.ble t 178)) (Bool.rec (.s s177) (.s s176) (Nat.ble t 176)) (Nat.ble t 177)) (Nat.ble t 179)) (Nat.ble t 183)) (Bool.rec (Bool.rec (Bool.rec (Bool.rec (.s s175) (.s s174) (Nat.ble t 174)) (Bool.rec (.s s173) (.s s172) (Nat.ble t 172)) (Nat.ble t 173)) (Bool.rec (Bool.rec (.s s171) (.s s170) (Nat.ble t 170)) (Bool.rec (.s s169) (.s s168) (Nat.ble t 168)) (Nat.ble t 169)) (Nat.ble t 171)) (Bool.rec (Bool.rec (Bool.rec (.s s167) (.s s166) (Nat.ble t 166)) (Bool.rec (.s s165) (.s s164) (Nat.ble t 164)) (Nat.ble t 165)) (Bool.rec (Bool.rec (.s s163) (.s s162) (Nat.ble t 162)) (Bool.rec (.s s161) (.s s160) (Nat.ble t 160)) (Nat.ble t 161)) (Nat.ble t 163)) (Nat.ble t 167)) (Nat.ble t 175)) (Bool.rec (Bool.rec (Bool.rec (Bool.rec (Bool.rec (.s s159) (.s s158) (Nat.ble t 158)) (Bool.rec (.s s157) (.s s156) (Nat.ble t 156)) (Nat.ble t 157)) (Bool.rec (Bool.rec (.s s155) (.s s154) (Nat.ble t 154)) (Bool.rec (.s s153) (.s s152) (Nat.ble t 152)) (Nat.ble t 153)) (Nat.ble t 155)) (Bool.rec (Bool.rec (Bool.rec (.s s151) (.s s150) (Nat.ble t 150)) (Bool.rec (.s s149) (.s s148) (Nat.ble t 148)) (Nat.ble t 149)) (Bool.rec (Bool.rec (.s s147) (.s s146) (Nat.ble t 146)) (Bool.rec (.s s145) (.s s144) (Nat.ble t 144)) (Nat.ble t 145)) (Nat.ble t 147)) (Nat.ble t 151)) (Bool.rec (Bool.rec (Bool.rec (Bool.rec (.s s143) (.s s142) (Nat.ble t 142)) (Bool.rec (.s s141) (.s s140) (Nat.ble t 140)) (Nat.ble t 141)) (Bool.rec (Bool.rec (.s s139) (.s s138) (Nat.ble t 138)) (Bool.rec (.s s137) (.s s136) (Nat.ble t 136)) (Nat.ble t 137)) (Nat.ble t 139)) (Bool.rec (Bool.rec (Bool.rec (.s s135) (.s s134) (Nat.ble t 134)) (Bool.rec (.s s133) (.s s132) (Nat.ble t 132)) (Nat.ble t 133)) (Bool.rec (Bool.rec (.s s131) (.s s130) (Nat.ble t 130)) (Bool.rec (.s s129) (.s s128) (Nat.ble t 128)) (Nat.ble t 129)) (Nat.ble t 131)) (Nat.ble t 135)) (Nat.ble t 143)) (Nat.ble t 159)) (Nat.ble t 191)) (Bool.rec (Bool.rec (Bool.rec (Bool.rec (Bool.rec (Bool.rec (Bool.rec (.s s127) (.s s126) (Nat.ble t 126)) (Bool.rec (.s s125) (.s s124) (Nat.ble t 124)) (Nat.ble t 125)) (Bool.rec (Bool.rec (.s s123) (.s s122) (Nat.ble t 122)) (Bool.rec (.s s121) (.s s120) (Nat.ble t 120)) (Nat.ble t 121)) (Nat.ble t 123)) (Bool.rec (Bool.rec (Bool.rec (.s s119) (.s s118) (Nat.ble t 118)) (Bool.rec (.s s117) (.s s116) (Nat.ble t 116)) (Nat.ble t 117)) (Bool.rec (Bool.rec (.s s115) (.s s114) (Nat.ble t 114)) (Bool.rec (.s s113) (.s s112) (Nat.ble t 112)) (Nat.ble t 113)) (Nat.ble t 115)) (Nat.ble t 119)) (Bool.rec (Bool.rec (Bool.rec (Bool.rec (.s s111) (.s s110) (Nat.ble t 110)) (Bool.rec (.s s109) (.s s108) (Nat.ble t 108)) (Nat.ble t 109)) (Bool.rec (Bool.rec (.s s107) (.s s106) (Nat.ble t 106)) (Bool.rec (.s s105) (.s s104) (Nat.ble t 104)) (Nat.ble t 105)) (Nat.ble t 107)) (Bool.rec (Bool.rec (Bool.rec (.s s103) (.s s102) (Nat.ble t 102)) (Bool.rec (.s s101) (.s s100) (Nat.ble t 100)) (Nat.ble t 101)) (Bool.rec (Bool.rec (.s s99) (.s s98) (Nat.ble t 98)) (Bool.rec (.s s97) (.s s96) (Nat.ble t 96)) (Nat.ble t 97)) (Nat.ble t 99)) (Nat.ble t 103)) (Nat.ble t 111)) (Bool.rec (Bool.rec (Bool.rec (Bool.rec (Bool.rec (.s s95) (.s s94) (Nat.ble t 94)) (Bool.rec (.s s93) (.s s92) (Nat.ble t 92)) (Nat.ble t 93)) (Bool.rec (Bool.rec (.s s91) (.s s90) (Nat.ble t 90)) (Bool.rec (.s s89) (.s s88) (Nat.ble t 88)) (Nat.ble t 89)) (Nat.ble t 91)) (Bool.rec (Bool.rec (Bool.rec (.s s87) (.s s86) (Nat.ble t 86)) (Bool.rec (.s s85) (.s s84) (Nat.ble t 84)) (Nat.ble t 85)) (Bool.rec (Bool.rec (.s s83) (.s s82) (Nat.ble t 82)) (Bool.rec (.s s81) (.s s80) (Nat.ble t 80)) (Nat.ble t 81)) (Nat.ble t 83)) (Nat.ble t 87)) (Bool.rec (Bool.rec (Bool.rec (Bool.rec (.s s79) (.s s78) (Nat.ble t 78)) (Bool.rec (.s s77) (.s s76) (Nat.ble t 76)) (Nat.ble t 77)) (Bool.rec (Bool.rec (.s s75) (.s s74) (Nat.ble t 74)) (Bool.rec (.s s73) (.s s72) (Nat.ble t 72)) (Nat.ble t 73)) (Nat.ble t 75)) (Bool.rec (Bool.rec (Bool.rec (.s s71) (.s s70) (Nat.ble t 70)) (Bool.rec (.s s69) (.s s68) (Nat.ble t 68)) (Nat.ble t 69)) (Bool.rec (Bool.rec (.s s67) (.s s66) (Nat.ble t 66)) (Bool.rec (.s s65) (.s s64) (Nat.ble t 64)) (Nat.ble t 65)) (Nat.ble t 67)) (Nat.ble t 71)) (Nat.ble t 79)) (Nat.ble t 95)) (Bool.rec (Bool.rec (Bool.rec (Bool.rec (Bool.rec (Bool.rec (.s s63) (.s s62) (Nat.ble t 62)) (Bool.rec (.s s61) (.s s60) (Nat.ble t 60)) (Nat.ble t 61)) (Bool.rec (Bool.rec (.s s59) (.s s58) (Nat.ble t 58)) (Bool.rec (.s s57) (.s s56) (Nat.ble t 56)) (Nat.ble t 57)) (Nat.ble t 59)) (Bool.rec (Bool.rec (Bool.rec (.s s55) (.s s54) (Nat.ble t 54)) (Bool.rec (.s s53) (.s s52) (Nat.ble t 52)) (Nat.ble t 53)) (Bool.rec (Bool.rec (.s s51) (.s s50) (Nat.ble t 50)) (Bool.rec (.s s49) (.s s48) (Nat.ble t 48)) (Nat.ble t 49)) (Nat.ble t 51)) (Nat.ble t 55)) (Bool.rec (Bool.rec (Bool.rec (Bool.rec (.s s47) (.s s46) (Nat.ble t 46)) (Bool.rec (.s s45) (.s s44) (Nat.ble t 44)) (Nat.ble t 45)) (Bool.rec (Bool.rec (.s s43) (.s s42) (Nat.ble t 42)) (Bool.rec (.s s41) (.s s40) (Nat.ble t 40)) (Nat.ble t 41)) (Nat.ble t 43)) (Bool.rec (Bool.rec (Bool.rec (.s s39) (.s s38) (Nat.ble t 38)) (Bool.rec (.s s37) (.s s36) (Nat.ble t 36)) (Nat.ble t 37)) (Bool.rec (Bool.rec (.s s35) (.s s34) (Nat.ble t 34)) (Bool.rec (.s s33) (.s s32) (Nat.ble t 32)) (Nat.ble t 33)) (Nat.ble t 35)) (Nat.ble t 39)) (Nat.ble t 47)) (Bool.rec (Bool.rec (Bool.rec (Bool.rec (Bool.rec (.s s31) (.s s30) (Nat.ble t 30)) (Bool.rec (.s s29) (.s s28) (Nat.ble t 28)) (Nat.ble t 29)) (Bool.rec (Bool.rec (.s s27) (.s s26) (Nat.ble t 26)) (Bool.rec (.s s25) (.s s24) (Nat.ble t 24)) (Nat.ble t 25)) (Nat.ble t 27)) (Bool.rec (Bool.rec (Bool.rec (.s s23) (.s s22) (Nat.ble t 22)) (Bool.rec (.s s21) (.s s20) (Nat.ble t 20)) (Nat.ble t 21)) (Bool.rec (Bool.rec (.s s19) (.s s18) (Nat.ble t 18)) (Bool.rec (.s s17) (.s s16) (Nat.ble t 16)) (Nat.ble t 17)) (Nat.ble t 19)) (Nat.ble t 23)) (Bool.rec (Bool.rec (Bool.rec (Bool.rec (.s s15) (.s s14) (Nat.ble t 14)) (Bool.rec (.s s13) (.s s12) (Nat.ble t 12)) (Nat.ble t 13)) (Bool.rec (Bool.rec (.s s11) (.s s10) (Nat.ble t 10)) (Bool.rec (.s s9) (.s s8) (Nat.ble t 8)) (Nat.ble t 9)) (Nat.ble t 11)) (Bool.rec (Bool.rec (Bool.rec (.s s7) (.s s6) (Nat.ble t 6)) (Bool.rec (.s s5) (.s s4) (Nat.ble t 4)) (Nat.ble t 5)) (Bool.rec (Bool.rec (.s s3) (.s s2) (Nat.ble t 2)) (Bool.rec (.s s1) (.s s0) (Nat.ble t 0)) (Nat.ble t 1)) (Nat.ble t 3)) (Nat.ble t 7)) (Nat.ble t 15)) (Nat.ble t 31)) (Nat.ble t 63)) (Nat.ble t 127))
end Go.Proofs.YtdjeokgkeejpcaaGreatDoor.AX

namespace Go.Proofs.YtdjeokgkeejpcaaGreatDoor.AX

noncomputable def kx (o : Operand) : KX :=
  Operand.rec (fun t => Bool.rec .z (getT t) (Nat.ble t 255)) (fun v => .c (ofVal v).down) (fun _ => .z) (fun _ => .z) o
noncomputable def kt (sz : Nat) (d : Option Tmp) : KT :=
  Option.rec .z (fun t => Bool.rec .z (Bool.rec .z (setT t) (Nat.ble (Nat.succ t) sz)) (Nat.ble t 255)) d
noncomputable def gx (x : KX) (fr : Fr) : FV := KX.rec (fun g fr => g fr) (fun v _ => v) (fun _ => .oth .bad) x fr
noncomputable def putT (t : KT) (v : FV) (fr : Fr) : Fr := KT.rec (fun g => g) (fun _ fr => fr) t v fr

/-- What an operation is. -/
inductive KOp where
  | slow
  | mv (t : KT) (x : KX)
  | bin (op : BinOp) (t : KT) (x y : KX)
  | nt (t : KT) (x : KX)
  | pick (t : KT) (c a b : KX)
  | cv (t : KT) (k : IntKind) (x : KX)
  | ld (t : KT) (x : KX)
  | st (x v : KX)
  | fa (t : KT) (off : Nat) (x : KX)
  | ia (t : KT) (n : Nat) (x i : KX)
  | iaa (t : KT) (len n : Nat) (x i : KX)
  | len (t : KT) (x : KX)

def isOne (P : Program) (t : TypeId) : Bool :=
  match isAggT P t with
  | some false => match sizeT P t with
    | some 1 => true
    | _ => false
  | _ => false
def kop2 (t : KT) (x : KX) (k : KOp) : KOp :=
  match t with
  | .z => .slow
  | _ => match x with
    | .z => .slow
    | _ => k
def kop1 (x : KX) (k : KOp) : KOp :=
  match x with
  | .z => .slow
  | _ => k
noncomputable def kop (C : Ctx) (sz : Nat) (o : Oper) : KOp :=
  match o.op with
  | .move x => kop2 (kt sz o.dst) (kx x) (.mv (kt sz o.dst) (kx x))
  | .assign x => kop2 (kt sz o.dst) (kx x) (.mv (kt sz o.dst) (kx x))
  | .binOp op _ x y _ => kop2 (kt sz o.dst) (kx x) (kop1 (kx y) (.bin op (kt sz o.dst) (kx x) (kx y)))
  | .unOp .not _ x => kop2 (kt sz o.dst) (kx x) (.nt (kt sz o.dst) (kx x))
  | .pick c a b => kop2 (kt sz o.dst) (kx c) (kop1 (kx a) (kop1 (kx b) (.pick (kt sz o.dst) (kx c) (kx a) (kx b))))
  | .convert src dst x => match C.P.underlying src, C.P.underlying dst with
    | some (.int _), some (.int k) => kop2 (kt sz o.dst) (kx x) (.cv (kt sz o.dst) k (kx x))
    | _, _ => .slow
  | .load t x => match isAggT C.P t with
    | some false => kop2 (kt sz o.dst) (kx x) (.ld (kt sz o.dst) (kx x))
    | _ => .slow
  | .store t x v => match o.dst, isOne C.P t with
    | none, true => kop1 (kx x) (kop1 (kx v) (.st (kx x) (kx v)))
    | _, _ => .slow
  | .fieldAddr s x n => match C.P.underlying s with
    | some (.struct fs) => match fs[n]? with
      | some f => match sizeT C.P f.type with
        | some (_ + 1) => kop2 (kt sz o.dst) (kx x) (.fa (kt sz o.dst) f.offset (kx x))
        | _ => .slow
      | none => .slow
    | _ => .slow
  | .indexAddr t x i => match C.P.underlying t with
    | some (.slice e) => match sizeT C.P e with
      | some n => kop2 (kt sz o.dst) (kx x) (kop1 (kx i) (.ia (kt sz o.dst) n (kx x) (kx i)))
      | none => .slow
    | some (.array len e) => match sizeT C.P e with
      | some n => kop2 (kt sz o.dst) (kx x) (kop1 (kx i) (.iaa (kt sz o.dst) len n (kx x) (kx i)))
      | none => .slow
    | _ => .slow
  | .call c => match c.callee with
    | .builtin .len => match c.argTypes[0]?, c.args[0]? with
      | some t, some x => match C.P.underlying t with
        | some (.slice _) => kop2 (kt sz o.dst) (kx x) (.len (kt sz o.dst) (kx x))
        | _ => .slow
      | _, _ => .slow
    | _ => .slow
  | _ => .slow

/-- An operation that is wanted, the long way. -/
noncomputable def opT (C : Ctx) (cl : CallF) (sz : Nat) (o : Oper) (fr : Fr) (ds : List ADef) (hp : Hp) (nx : Nat) (kn : KN) (kp : List APan → KN) : Res :=
  match cls C.P o.op with
    | 0 => match pureA C.P o.op (opd fr) with
      | some v => putK sz o.dst v fr fun fr => kn fr ds hp nx
      | none => .fail (some o.pos)
    | 1 => match readA C o.op (opd fr) hp with
      | some v => putK sz o.dst v fr fun fr => kn fr ds hp nx
      | none => .fail (some o.pos)
    | 2 => match allocA C o.op (opd fr) with
      | some (b, mk) => putK sz o.dst (mk nx) fr fun fr => forceN nx fun nx => kn fr ds (hp.set nx b) (Nat.succ nx)
      | none => .fail (some o.pos)
    | 4 => match deferA C o.op (opd fr) with
      | some d => putK sz o.dst (.tup []) fr fun fr => kn fr (d :: ds) hp nx
      | none => .fail (some o.pos)
    | _ => match wA C cl o.op (opd fr) hp nx with
      | .done v hp nx => putK sz o.dst v fr fun fr => kn fr ds hp nx
      | .pan c hp nx => kp c fr ds hp nx
      | .fail (some s) => .fail (some s)
      | .fail none => .fail (some o.pos)
abbrev OpF := Ctx → CallF → Nat → Oper → Fr → List ADef → Hp → Nat → KN → (List APan → KN) → Res

/- A value goes to its slot. -/
noncomputable def tN (k : IntKind) (n : Nat) (t : KT) (fr : Fr) (ds : List ADef) (hp : Hp) (nx : Nat) (kn : KN) : Res := kn (putT t (.nat k n) fr) ds hp nx
noncomputable def tB (b : Bool) (t : KT) (fr : Fr) (ds : List ADef) (hp : Hp) (nx : Nat) (kn : KN) : Res := kn (putT t (.bool b) fr) ds hp nx
noncomputable def tP (i o : Nat) (t : KT) (fr : Fr) (ds : List ADef) (hp : Hp) (nx : Nat) (kn : KN) : Res := kn (putT t (.ptr i o) fr) ds hp nx
noncomputable def tS (i o l c : Nat) (t : KT) (fr : Fr) (ds : List ADef) (hp : Hp) (nx : Nat) (kn : KN) : Res := kn (putT t (.slc i o l c) fr) ds hp nx
noncomputable def tO (i o l z : Nat) (t : KT) (fr : Fr) (ds : List ADef) (hp : Hp) (nx : Nat) (kn : KN) : Res := kn (putT t (.opn i o l z) fr) ds hp nx
noncomputable def tV (v : AV) (t : KT) (fr : Fr) (ds : List ADef) (hp : Hp) (nx : Nat) (kn : KN) : Res := kn (putT t v.down fr) ds hp nx
noncomputable def tTo (v : FV) : KT → Fr → List ADef → Hp → Nat → KN → Res := FV.rec tN tB tP tS tO tV v
noncomputable def aMv (t : KT) (x : KX) : OpF := fun _ _ _ _ fr ds hp nx kn _ => tTo (gx x fr) t fr ds hp nx kn

/-- The kind's number. -/
noncomputable def kc (k : IntKind) : Nat := IntKind.rec 0 1 2 3 4 5 6 7 k
noncomputable def limF (k : IntKind) : Nat := IntKind.rec 127 32767 2147483647 9223372036854775807 255 65535 4294967295 18446744073709551615 k
abbrev BinF := IntKind → Nat → Nat → KT → OpF
noncomputable def bSlow : BinF := fun _ _ _ _ => opT
noncomputable def bAdd : BinF := fun k a b t C cl sz o fr ds hp nx kn kp => Bool.rec (opT C cl sz o fr ds hp nx kn kp) (kn (putT t (.nat k (Nat.add a b)) fr) ds hp nx) (Nat.ble (Nat.add a b) (limF k))
noncomputable def bMul : BinF := fun k a b t C cl sz o fr ds hp nx kn kp => Bool.rec (opT C cl sz o fr ds hp nx kn kp) (kn (putT t (.nat k (Nat.mul a b)) fr) ds hp nx) (Nat.ble (Nat.mul a b) (limF k))
noncomputable def bSub : BinF := fun k a b t C cl sz o fr ds hp nx kn kp => Bool.rec (opT C cl sz o fr ds hp nx kn kp) (Bool.rec (opT C cl sz o fr ds hp nx kn kp) (kn (putT t (.nat k (Nat.sub a b)) fr) ds hp nx) (Nat.ble (Nat.sub a b) (limF k))) (Nat.ble b a)
noncomputable def bEql : BinF := fun _ a b t _ _ _ _ fr ds hp nx kn _ => kn (putT t (.bool (Nat.beq a b)) fr) ds hp nx
noncomputable def bNeq : BinF := fun _ a b t _ _ _ _ fr ds hp nx kn _ => kn (putT t (.bool (Bool.rec true false (Nat.beq a b))) fr) ds hp nx
noncomputable def bLss : BinF := fun _ a b t _ _ _ _ fr ds hp nx kn _ => kn (putT t (.bool (Bool.rec true false (Nat.ble b a))) fr) ds hp nx
noncomputable def bLeq : BinF := fun _ a b t _ _ _ _ fr ds hp nx kn _ => kn (putT t (.bool (Nat.ble a b)) fr) ds hp nx
noncomputable def bGtr : BinF := fun _ a b t _ _ _ _ fr ds hp nx kn _ => kn (putT t (.bool (Bool.rec true false (Nat.ble a b))) fr) ds hp nx
noncomputable def bGeq : BinF := fun _ a b t _ _ _ _ fr ds hp nx kn _ => kn (putT t (.bool (Nat.ble b a)) fr) ds hp nx
noncomputable def bOp (op : BinOp) : BinF := BinOp.rec bAdd bSub bMul bSlow bSlow bSlow bSlow bSlow bSlow bSlow bSlow bEql bNeq bLss bLeq bGtr bGeq op
end Go.Proofs.YtdjeokgkeejpcaaGreatDoor.AX

namespace Go.Proofs.YtdjeokgkeejpcaaGreatDoor.AX

abbrev YF := IntKind → Nat → BinOp → KT → OpF
noncomputable def yNN (k' : IntKind) (b : Nat) : YF := fun k a op t C cl sz o fr ds hp nx kn kp =>
  Bool.rec opT (bOp op k a b t) (Nat.beq (kc k) (kc k')) C cl sz o fr ds hp nx kn kp
noncomputable def ySlow : YF := fun _ _ _ _ => opT
abbrev XF := BinOp → KT → KX → OpF
noncomputable def xN (k : IntKind) (a : Nat) : XF := fun op t y C cl sz o fr ds hp nx kn kp =>
  FV.rec (motive := fun _ => YF) yNN (fun _ => ySlow) (fun _ _ => ySlow) (fun _ _ _ _ => ySlow) (fun _ _ _ _ => ySlow) (fun _ => ySlow) (gx y fr) k a op t C cl sz o fr ds hp nx kn kp
noncomputable def xSlow : XF := fun _ _ _ => opT
noncomputable def aBin (op : BinOp) (t : KT) (x y : KX) : OpF := fun C cl sz o fr ds hp nx kn kp =>
  FV.rec (motive := fun _ => XF) xN (fun _ => xSlow) (fun _ _ => xSlow) (fun _ _ _ _ => xSlow) (fun _ _ _ _ => xSlow) (fun _ => xSlow) (gx x fr) op t y C cl sz o fr ds hp nx kn kp
noncomputable def aNt (t : KT) (x : KX) : OpF := fun C cl sz o fr ds hp nx kn kp =>
  FV.rec (motive := fun _ => Res) (fun _ _ => opT C cl sz o fr ds hp nx kn kp) (fun b => kn (putT t (.bool (Bool.rec true false b)) fr) ds hp nx) (fun _ _ => opT C cl sz o fr ds hp nx kn kp) (fun _ _ _ _ => opT C cl sz o fr ds hp nx kn kp)
    (fun _ _ _ _ => opT C cl sz o fr ds hp nx kn kp) (fun _ => opT C cl sz o fr ds hp nx kn kp) (gx x fr)
abbrev PF := KT → KX → KX → OpF
noncomputable def pB (c : Bool) : PF := fun t a b _ _ _ _ fr ds hp nx kn _ => tTo (gx (Bool.rec b a c) fr) t fr ds hp nx kn
noncomputable def pSlow : PF := fun _ _ _ => opT
noncomputable def aPick (t : KT) (c a b : KX) : OpF := fun C cl sz o fr ds hp nx kn kp =>
  FV.rec (motive := fun _ => PF) (fun _ _ => pSlow) pB (fun _ _ => pSlow) (fun _ _ _ _ => pSlow) (fun _ _ _ _ => pSlow) (fun _ => pSlow) (gx c fr) t a b C cl sz o fr ds hp nx kn kp
abbrev CF := IntKind → KT → OpF
noncomputable def cN (_k : IntKind) (n : Nat) : CF := fun k t C cl sz o fr ds hp nx kn kp => Bool.rec (opT C cl sz o fr ds hp nx kn kp) (kn (putT t (.nat k n) fr) ds hp nx) (Nat.ble n (limF k))
noncomputable def cSlow : CF := fun _ _ => opT
noncomputable def aCv (t : KT) (k : IntKind) (x : KX) : OpF := fun C cl sz o fr ds hp nx kn kp =>
  FV.rec (motive := fun _ => CF) cN (fun _ => cSlow) (fun _ _ => cSlow) (fun _ _ _ _ => cSlow) (fun _ _ _ _ => cSlow) (fun _ => cSlow) (gx x fr) k t C cl sz o fr ds hp nx kn kp
/- Loads of one cell. -/
abbrev LF := Nat → KT → OpF
noncomputable def lC (c : Cells) (n : Nat) (_cl : Cl) : LF := fun off t C cl sz o fr ds hp nx kn kp =>
  Bool.rec (opT C cl sz o fr ds hp nx kn kp) (Option.rec (opT C cl sz o fr ds hp nx kn kp) (fun v => tTo v t fr ds hp nx kn) (c.t.get off)) (Nat.ble (Nat.succ off) n)
noncomputable def lSlow : LF := fun _ _ => opT
noncomputable def lBlk (b : Blk) : LF := Blk.rec lC (fun _ _ _ => lSlow) (fun _ _ _ _ => lSlow) (fun _ _ _ _ _ _ _ _ _ => lSlow) (fun _ => lSlow) (fun _ _ => lSlow) b
abbrev LP := KT → OpF
noncomputable def lP (id off : Nat) : LP := fun t C cl sz o fr ds hp nx kn kp => Option.rec lSlow lBlk (hp.get id) off t C cl sz o fr ds hp nx kn kp
noncomputable def lpSlow : LP := fun _ => opT
noncomputable def aLd (t : KT) (x : KX) : OpF := fun C cl sz o fr ds hp nx kn kp =>
  FV.rec (motive := fun _ => LP) (fun _ _ => lpSlow) (fun _ => lpSlow) lP (fun _ _ _ _ => lpSlow) (fun _ _ _ _ => lpSlow) (fun _ => lpSlow) (gx x fr) t C cl sz o fr ds hp nx kn kp
/- Stores of one cell. -/
abbrev SF := Nat → Nat → FV → OpF
noncomputable def sC (c : Cells) (n : Nat) (f : Cl) : SF := fun id off v C cl sz o fr ds hp nx kn kp =>
  Bool.rec (opT C cl sz o fr ds hp nx kn kp) (kn fr ds (hp.set id (.cells ⟨c.t.set off v⟩ n f)) nx) (Nat.ble (Nat.succ off) n)
noncomputable def sSlow : SF := fun _ _ _ => opT
noncomputable def sBlk (b : Blk) : SF := Blk.rec sC (fun _ _ _ => sSlow) (fun _ _ _ _ => sSlow) (fun _ _ _ _ _ _ _ _ _ => sSlow) (fun _ => sSlow) (fun _ _ => sSlow) b
noncomputable def sAt (v : FV) (id off : Nat) : OpF := fun C cl sz o fr ds hp nx kn kp => Option.rec sSlow sBlk (hp.get id) id off v C cl sz o fr ds hp nx kn kp
noncomputable def sV (v : FV) : Nat → Nat → OpF :=
  FV.rec (motive := fun _ => Nat → Nat → OpF) (fun k n => sAt (.nat k n)) (fun b => sAt (.bool b)) (fun i o => sAt (.ptr i o)) (fun i o l c => sAt (.slc i o l c)) (fun i o l z => sAt (.opn i o l z)) (fun _ _ _ => opT) v
abbrev SP := KX → OpF
noncomputable def sP (id off : Nat) : SP := fun v C cl sz o fr ds hp nx kn kp => sV (gx v fr) id off C cl sz o fr ds hp nx kn kp
noncomputable def spSlow : SP := fun _ => opT
noncomputable def aSt (x v : KX) : OpF := fun C cl sz o fr ds hp nx kn kp =>
  FV.rec (motive := fun _ => SP) (fun _ _ => spSlow) (fun _ => spSlow) sP (fun _ _ _ _ => spSlow) (fun _ _ _ _ => spSlow) (fun _ => spSlow) (gx x fr) v C cl sz o fr ds hp nx kn kp
noncomputable def aFa (t : KT) (off : Nat) (x : KX) : OpF := fun C cl sz o fr ds hp nx kn kp =>
  FV.rec (motive := fun _ => Res) (fun _ _ => opT C cl sz o fr ds hp nx kn kp) (fun _ => opT C cl sz o fr ds hp nx kn kp) (fun id a => kn (putT t (.ptr id (Nat.add a off)) fr) ds hp nx) (fun _ _ _ _ => opT C cl sz o fr ds hp nx kn kp)
    (fun _ _ _ _ => opT C cl sz o fr ds hp nx kn kp) (fun _ => opT C cl sz o fr ds hp nx kn kp) (gx x fr)
/- Addresses of elements. -/
abbrev IF := Nat → KT → Nat → OpF
noncomputable def iAt (id off len : Nat) : IF := fun i t n C cl sz o fr ds hp nx kn kp =>
  Bool.rec (opT C cl sz o fr ds hp nx kn kp) (kn (putT t (.ptr id (Nat.add off (Nat.mul i n))) fr) ds hp nx) (Nat.ble (Nat.succ i) len)
noncomputable def iSlow : IF := fun _ _ _ => opT
noncomputable def iX (x : FV) : IF := FV.rec (motive := fun _ => IF) (fun _ _ => iSlow) (fun _ => iSlow) (fun _ _ => iSlow) (fun id off len _ => iAt id off len) (fun id off len _ => iAt id off len) (fun _ => iSlow) x
noncomputable def iA (len : Nat) (x : FV) : IF := FV.rec (motive := fun _ => IF) (fun _ _ => iSlow) (fun _ => iSlow) (fun id off => iAt id off len) (fun _ _ _ _ => iSlow) (fun _ _ _ _ => iSlow) (fun _ => iSlow) x
abbrev JF := KT → Nat → KX → OpF
noncomputable def jN (_k : IntKind) (i : Nat) : JF := fun t n x C cl sz o fr ds hp nx kn kp => iX (gx x fr) i t n C cl sz o fr ds hp nx kn kp
noncomputable def jSlow : JF := fun _ _ _ => opT
noncomputable def aIa (t : KT) (n : Nat) (x i : KX) : OpF := fun C cl sz o fr ds hp nx kn kp =>
  FV.rec (motive := fun _ => JF) jN (fun _ => jSlow) (fun _ _ => jSlow) (fun _ _ _ _ => jSlow) (fun _ _ _ _ => jSlow) (fun _ => jSlow) (gx i fr) t n x C cl sz o fr ds hp nx kn kp
abbrev JA := KT → Nat → Nat → KX → OpF
noncomputable def jaN (_k : IntKind) (i : Nat) : JA := fun t len n x C cl sz o fr ds hp nx kn kp => iA len (gx x fr) i t n C cl sz o fr ds hp nx kn kp
noncomputable def jaSlow : JA := fun _ _ _ _ => opT
noncomputable def aIaa (t : KT) (len n : Nat) (x i : KX) : OpF := fun C cl sz o fr ds hp nx kn kp =>
  FV.rec (motive := fun _ => JA) jaN (fun _ => jaSlow) (fun _ _ => jaSlow) (fun _ _ _ _ => jaSlow) (fun _ _ _ _ => jaSlow) (fun _ => jaSlow) (gx i fr) t len n x C cl sz o fr ds hp nx kn kp
noncomputable def aLen (t : KT) (x : KX) : OpF := fun C cl sz o fr ds hp nx kn kp =>
  FV.rec (motive := fun _ => Res) (fun _ _ => opT C cl sz o fr ds hp nx kn kp) (fun _ => opT C cl sz o fr ds hp nx kn kp) (fun _ _ => opT C cl sz o fr ds hp nx kn kp) (fun _ _ l _ => kn (putT t (.nat .i64 l) fr) ds hp nx)
    (fun _ _ l _ => kn (putT t (.nat .i64 l) fr) ds hp nx) (fun _ => opT C cl sz o fr ds hp nx kn kp) (gx x fr)

/-- A wanted operation. -/
noncomputable def kdo (k : KOp) : OpF := KOp.rec (motive := fun _ => OpF) opT aMv aBin aNt aPick aCv aLd aSt aFa aIa aIaa aLen k
noncomputable def opW : OpF := fun C cl sz o fr ds hp nx kn kp => kdo (kop C sz o) C cl sz o fr ds hp nx kn kp

/- Guards. -/
inductive KG where
  | no
  | at (x : KX) (w : Bool)
  | slow
noncomputable def kg (all : Array Oper) (o : Oper) : KG :=
  match o.guard with
  | none => .no
  | some (j, w) => match (all[j]?).bind (·.dst) with
    | some d => match kx (.tmp d) with
      | .z => .slow
      | x => .at x w
    | none => .slow
abbrev GF := Array Oper → OpF
noncomputable def gNo : GF := fun _ => opW
noncomputable def gSlow : GF := fun all C cl sz o fr ds hp nx kn kp => opK C cl sz all o fr ds hp nx kn kp
noncomputable def skipT : OpF := fun _ _ sz o fr ds hp nx kn _ => putK sz o.dst (.tup []) fr fun fr => kn fr ds hp nx
abbrev HF := Bool → GF
noncomputable def hB (b : Bool) : HF := fun w _ => Bool.rec (Bool.rec opW skipT w) (Bool.rec skipT opW w) b
def isTup (v : AV) : Bool :=
  match v with
  | .tup _ => true
  | _ => false
noncomputable def hV (v : AV) : HF := fun _ all => Bool.rec (gSlow all) skipT (isTup v)
noncomputable def hSlow : HF := fun _ all => gSlow all
noncomputable def gAt (x : KX) (w : Bool) : GF := fun all C cl sz o fr ds hp nx kn kp =>
  FV.rec (motive := fun _ => HF) (fun _ _ => hSlow) hB (fun _ _ => hSlow) (fun _ _ _ _ => hSlow) (fun _ _ _ _ => hSlow) hV (gx x fr) w all C cl sz o fr ds hp nx kn kp
/-- One operation. -/
noncomputable def opS : GF := fun all C cl sz o fr ds hp nx kn kp => KG.rec (motive := fun _ => GF) gNo gAt gSlow (kg all o) all C cl sz o fr ds hp nx kn kp

noncomputable def opsS (C : Ctx) (cl : CallF) (sz : Nat) (all : Array Oper) (l : List Oper) (kn : KN) (kp : List APan → KN) : KN :=
  List.rec (motive := fun _ => KN) kn (fun o _ ih fr ds hp nx => opS all C cl sz o fr ds hp nx ih kp) l
noncomputable def regionS (C : Ctx) (cl : CallF) (sz : Nat) (ops : Array Oper) (draw : Bool) (kn : KN) (kp : List APan → KN) : KN :=
  Bool.rec (opsS C cl sz ops ops.toList kn kp) (regionK C cl sz ops true kn kp) draw
abbrev CnF := Operand → KN → KN → KN
noncomputable def cnB (t : Bool) : CnF := fun _ a b => Bool.rec b a t
noncomputable def cnSlow : CnF := condK
noncomputable def condS (c : Operand) (a b : KN) : KN := fun fr ds hp nx =>
  FV.rec (motive := fun _ => CnF) (fun _ _ => cnSlow) cnB (fun _ _ => cnSlow) (fun _ _ _ _ => cnSlow) (fun _ _ _ _ => cnSlow) (fun _ => cnSlow) (gx (kx c) fr) c a b fr ds hp nx
noncomputable def exS (C : Ctx) (cl : CallF) (f : FuncId) (sz : Nat) (ro : Option Nat) (c : Code) : KN → (Nat → KN) → KN → (List APan → KN) → KN :=
  Code.rec (motive := fun _ => KN → (Nat → KN) → KN → (List APan → KN) → KN)
    (fun kn _ _ _ => kn)
    (fun _ ops draw kn _ _ kp => regionS C cl sz ops draw kn kp)
    (fun _ _ a b kn kx kr kp => a (b kn kx kr kp) kx kr kp)
    (fun c _ _ a b kn kx kr kp => condS c (a kn kx kr kp) (b kn kx kr kp))
    (fun id _ a kn kx kr kp => a kn (fun i => Bool.rec (kx i) kn (Nat.beq i id)) kr kp)
    (fun _ a _ kx kr kp => loopK fun kn => a kn kx kr kp)
    (fun g ps as bd _ _ kn kx kr kp fr ds hp nx => rangeK cl f sz ro g ps as bd fr ds hp nx kn kx kr kp)
    (fun id _ kx _ _ => kx id)
    (fun _ a kn kx kr kp => a kn kx kr kp)
    (fun _ kn _ _ _ => kn)
    (fun _ _ _ _ _ => failK)
    (fun _ _ kr _ => kr)
    (fun _ _ _ _ _ => failK)
    c
/-- A call with so many levels to spare. -/
noncomputable def callS (C : Ctx) (n : Nat) : CallF :=
  Nat.rec (motive := fun _ => CallF) (fun _ _ _ _ => .fail none) (fun _ cl t args hp nx => match t with
    | .fn f => orcOr C f args hp nx (match C.P.funcs[f]? with
      | some fn => match fn.body with
        | some c => match Nat.ble args.length fn.ntmps with
          | true => exS C cl f fn.ntmps none c (retK C cl fn) (fun _ => failK) (retK C cl fn) panK (frL args) [] hp nx
          | false => .fail none
        | none => .fail none
      | none => .fail none)
    | .dfd f => dfdOr C f args hp nx (match C.P.funcs[f]? with
      | some fn => match fn.body with
        | some c => match Nat.ble args.length fn.ntmps with
          | true => exS C cl f fn.ntmps none c (retD C fn) (fun _ => failK) (retD C fn) panK (frL args) [] hp nx
          | false => .fail none
        | none => .fail none
      | none => .fail none)
    | .rnd l => match hp.get l with
      | some (.loop _ _ f fr sz ps as bd _) => match setAll sz fr ps args with
        | some fr => exS { C with rd := true } cl f sz (some l) as
            (fun fr ds hp nx => match hp.get l with
              | some (.loop .ready p f' fr' sz' ps' as' bd' d') =>
                exS { C with rd := true } cl f sz (some l) bd (fun _ _ hp nx => endRoundA l hp nx none) (fun id _ _ hp nx => endRoundA l hp nx (some (.exit id)))
                  (fun _ _ hp nx => endRoundA l hp nx (some .ret)) (fun _ => failK) fr ds (hp.set l (.loop .busy p f' fr' sz' ps' as' bd' d')) nx
              | _ => .fail none)
            (fun _ => failK) failK (fun _ => failK) fr [] hp nx
        | none => .fail none
      | _ => .fail none) n
end Go.Proofs.YtdjeokgkeejpcaaGreatDoor.AX
