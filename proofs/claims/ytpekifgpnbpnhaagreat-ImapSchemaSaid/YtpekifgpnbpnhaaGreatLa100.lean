/- A checkpoint of the machine's run: one call of function 24, its value and the memory that is needed behind it; no conditions. -/
import Derived.Test.YtpekifgpnbpnhaaGreatAw
namespace Go.Proofs.YtpekifgpnbpnhaaGreat
open Go.Abs Go.RowKit
noncomputable def LaM100 : Memo := ⟨24,
  [(.str 492
    325127229185421777672971833538848144272351895259153102548895244493612351463433755066600101389492691638233748966236443997240516848397867190461725836042798271348874774654054235114176316620959445954334953163352886112797794845552903603581554458276999870896772597625601084516377804927165886811349999198798814255525977940554601153363800418572704531762048279111811247255946621351803975271266613157972525709616076670831805414502807381431275972157720661940190031850850916801751256757737753286439694761461899113620647165118679886606763712377667390926961431043547229878518122884736705119742135362114954282846063543837702119191652029807202949335620833428469119695286395382769532589154480346314981104280316142767808757908972379856450204829227421408283612534182933254058925296767185601017848741192431637812520712005264702233044814883090964132665362696838586675914476586962992008598518907185994250155107828991732674200024551075616578042465079706783464911105989946183409247046257058504964832563598553960971883731787404229865464235760425567601244173681846369031805589190095228037881420693675357497267934333546697549131255702372630361263764250776541864515246990194583256544982576965692068857372559965450)],
  ⟨.leaf, Pos.of 0⟩,
  (.tup [(.slice (Pos.of 9904) 0 9 none 2), (.int .i64 (.ofNat 0)), (.int .i64 (.ofNat 0))]),
  ⟨(.node (.node (.node (.node (.node .leaf none (.node (.node (.node .leaf none (.node .leaf none (.node .leaf none (.node (.node .leaf (some (.cells (.node (.node .leaf (some (.str
    0 0)) .leaf) (some (.str 6 115858679819636)) (.node .leaf (some (.str 0 0)) .leaf)) 3 none)) .leaf) none .leaf)))) none .leaf) none .leaf)) none (.node .leaf none (.node .leaf
    none (.node .leaf none (.node .leaf none (.node .leaf none (.node (.node .leaf (some (.cells (.node (.node .leaf (some (.str 0 0)) .leaf) (some (.str 6 115858713306482)) (.node
    .leaf (some (.str 0 0)) .leaf)) 3 none)) .leaf) none (.node (.node (.node .leaf (some (.cells (.node (.node .leaf (some (.str 0 0)) .leaf) (some (.str 5 452572766580)) (.node
    .leaf (some (.str 0 0)) .leaf)) 3 none)) .leaf) none .leaf) none .leaf)))))))) none (.node (.node (.node (.node .leaf none (.node .leaf none (.node (.node (.node (.node .leaf
    (some (.cells (.node (.node .leaf (some (.str 0 0)) .leaf) (some (.str 8 7592894576552669038)) (.node .leaf (some (.str 0 0)) .leaf)) 3 none)) .leaf) none .leaf) none .leaf) none
    (.node .leaf none (.node .leaf none (.node (.node .leaf (some (.cells (.node (.node .leaf (some (.slice (Pos.of 6002) 0 1 none 3)) .leaf) (some (.str 3 6382452)) (.node .leaf
    (some .nilslice) .leaf)) 3 (some (Pos.of 6441)))) .leaf) none .leaf)))))) none .leaf) none (.node (.node .leaf none (.node (.node (.node (.node .leaf none (.node .leaf none
    (.node .leaf (some (.cells (.node (.node .leaf (some (.str 0 0)) .leaf) (some (.str 6 115858679819636)) (.node .leaf (some (.str 0 0)) .leaf)) 3 none)) .leaf))) none .leaf) none
    (.node .leaf none (.node .leaf none (.node .leaf none (.node .leaf (some (.cells (.node (.node .leaf (some (.str 0 0)) .leaf) (some (.str 8 7592915475762343540)) (.node .leaf
    (some (.str 4 1718773093)) .leaf)) 3 none)) .leaf))))) none .leaf)) none (.node (.node (.node (.node (.node .leaf (some (.cells (.node (.node .leaf (some (.slice (Pos.of 994) 0 1
    none 3)) .leaf) (some (.str 6 120282394289522)) (.node .leaf (some .nilslice) .leaf)) 3 none)) .leaf) none .leaf) none .leaf) none .leaf) none .leaf))) none (.node .leaf none
    (.node (.node .leaf none (.node (.node (.node .leaf none (.node .leaf none (.node .leaf (some (.cells (.node (.node .leaf (some (.str 0 0)) .leaf) (some (.str 7
    29659748936019556)) (.node .leaf (some (.str 0 0)) .leaf)) 3 none)) .leaf))) none .leaf) none .leaf)) none (.node .leaf none (.node (.node .leaf none (.node (.node (.node .leaf
    none (.node .leaf (some (.cells (.node (.node (.node (.node (.node .leaf (some (.slice (Pos.of 6441) 0 2 none 3)) .leaf) (some .nilslice) .leaf) (some .nilslice) (.node .leaf
    (some (.slice (Pos.of 4114) 0 8 none 3)) .leaf)) (some .nilslice) (.node (.node .leaf (some (.slice (Pos.of 1075) 0 1 none 3)) .leaf) (some .nilslice) (.node .leaf (some (.slice
    (Pos.of 5550) 0 3 none 3)) .leaf))) (some (.str 6 115858713306482)) (.node (.node (.node .leaf (some (.str 7 29659770460796272)) .leaf) (some (.str 10 497609164509930675397477))
    (.node .leaf (some (.str 6 115858679819636)) .leaf)) (some (.str 8 7592894576552669038)) (.node (.node .leaf (some (.str 8 7592915475762343540)) .leaf) (some (.str 5
    452572766580)) (.node .leaf (some (.str 7 29659748936019556)) .leaf)))) 16 (some (Pos.of 9904)))) .leaf)) none .leaf) none .leaf)) none .leaf)))))) none (.node (.node (.node
    (.node (.node .leaf none (.node .leaf none (.node .leaf none (.node .leaf none (.node .leaf none (.node .leaf (some (.cells (.node (.node .leaf (some (.str 0 0)) .leaf) (some
    (.str 6 115858713306482)) (.node .leaf (some (.str 0 0)) .leaf)) 3 none)) .leaf)))))) none .leaf) none (.node (.node (.node .leaf none (.node (.node .leaf none (.node (.node
    (.node .leaf (some (.cells (.node (.node (.node .leaf (some (.str 7 29659770460796272)) .leaf) (some (.str 0 0)) (.node .leaf (some (.str 6 120282394289522)) .leaf)) (some (.str
    6 115858713306482)) (.node (.node .leaf (some (.str 0 0)) .leaf) (some (.str 0 0)) .leaf)) 6 (some (Pos.of 4566)))) .leaf) none .leaf) none .leaf)) none .leaf)) none .leaf) none
    .leaf)) none (.node (.node .leaf none (.node (.node (.node (.node .leaf none (.node (.node .leaf (some (.cells (.node (.node .leaf (some (.str 0 0)) .leaf) (some (.str 10
    497609164509930675397477)) (.node .leaf (some (.str 0 0)) .leaf)) 3 none)) .leaf) none .leaf)) none (.node (.node (.node .leaf none (.node .leaf (some (.cells (.node (.node
    (.node .leaf (some (.str 3 7497075)) .leaf) (some (.slice (Pos.of 6002) 0 1 none 3)) (.node .leaf (some .nilslice) .leaf)) (some (.str 3 6382452)) (.node (.node .leaf (some
    (.slice (Pos.of 6360) 0 1 none 3)) .leaf) (some .nilslice) .leaf)) 6 (some (Pos.of 6083)))) .leaf)) none .leaf) none .leaf)) none .leaf) none .leaf)) none (.node .leaf none
    (.node (.node .leaf none (.node .leaf none (.node (.node .leaf none (.node .leaf none (.node .leaf (some (.cells (.node (.node .leaf (some (.str 0 0)) .leaf) (some (.str 6
    115858713306482)) (.node .leaf (some (.str 0 0)) .leaf)) 3 none)) .leaf))) none .leaf))) none .leaf)))) none (.node (.node (.node .leaf none (.node .leaf none (.node .leaf none
    (.node .leaf none (.node (.node .leaf none (.node (.node (.node .leaf (some (.cells (.node (.node (.node (.node (.node .leaf (some (.int .i64 (.ofNat 2))) .leaf) (some (.str 4
    1718773093)) .leaf) (some (.int .i64 (.ofNat 1))) (.node (.node .leaf (some (.str 0 0)) .leaf) (some (.str 0 0)) .leaf)) (some (.str 5 418430873463)) (.node (.node (.node .leaf
    (some (.str 3 7825519)) .leaf) (some (.int .i64 (.ofNat 3))) .leaf) (some (.str 0 0)) (.node .leaf (some (.str 0 0)) .leaf))) (some (.int .i64 (.ofNat 2))) (.node (.node (.node
    (.node .leaf (some (.str 4 1684369017)) .leaf) (some (.str 0 0)) .leaf) (some (.str 6 131294808271214)) (.node (.node .leaf (some (.str 0 0)) .leaf) (some (.int .i64 (.ofNat 5)))
    .leaf)) (some (.str 3 7825519)) (.node (.node (.node .leaf (some (.int .i64 (.ofNat 4))) .leaf) (some (.str 0 0)) .leaf) (some (.int .i64 (.ofNat 1))) (.node .leaf (some (.str 0
    0)) .leaf)))) 21 (some (Pos.of 9648)))) .leaf) none .leaf) none .leaf)) none .leaf))))) none (.node .leaf none (.node .leaf none (.node .leaf none (.node (.node (.node .leaf none
    (.node .leaf (some (.cells (.node (.node .leaf (some (.str 0 0)) .leaf) (some (.str 6 115858679819636)) (.node .leaf (some (.str 0 0)) .leaf)) 3 none)) .leaf)) none .leaf) none
    .leaf))))) none (.node (.node .leaf none (.node .leaf none (.node .leaf none (.node (.node .leaf none (.node (.node .leaf none (.node .leaf (some (.cells (.node (.node .leaf
    (some (.str 0 0)) .leaf) (some (.str 6 115858679819636)) (.node .leaf (some (.str 0 0)) .leaf)) 3 none)) .leaf)) none .leaf)) none .leaf)))) none (.node (.node .leaf none (.node
    (.node .leaf none (.node (.node .leaf none (.node (.node .leaf (some (.cells (.node (.node .leaf (some (.str 0 0)) .leaf) (some (.str 5 452572766580)) (.node .leaf (some (.str 0
    0)) .leaf)) 3 none)) .leaf) none .leaf)) none (.node .leaf (some (.cells (.node (.node .leaf (some (.str 0 0)) .leaf) (some (.str 7 29659770460796272)) (.node .leaf (some (.str 0
    0)) .leaf)) 3 none)) .leaf))) none .leaf)) none .leaf))))) none (.node (.node (.node (.node .leaf none (.node .leaf none (.node (.node .leaf none (.node (.node .leaf none (.node
    .leaf none (.node (.node (.node .leaf (some (.cells (.node (.node (.node (.node (.node .leaf (some (.slice (Pos.of 6441) 0 2 none 3)) .leaf) (some .nilslice) .leaf) (some
    .nilslice) (.node .leaf (some (.slice (Pos.of 4114) 0 8 none 3)) .leaf)) (some .nilslice) (.node (.node (.node .leaf (some (.slice (Pos.of 9822) 0 5 none 3)) .leaf) (some (.slice
    (Pos.of 1075) 0 1 none 3)) .leaf) (some .nilslice) (.node .leaf (some (.slice (Pos.of 5550) 0 3 none 3)) .leaf))) (some (.str 6 115858713306482)) (.node (.node (.node (.node
    .leaf (some (.str 5 452572898673)) .leaf) (some (.str 7 29659770460796272)) .leaf) (some (.str 10 497609164509930675397477)) (.node .leaf (some (.str 6 115858679819636)) .leaf))
    (some (.str 8 7592894576552669038)) (.node (.node .leaf (some (.str 8 7592915475762343540)) .leaf) (some (.str 5 452572766580)) (.node .leaf (some (.str 7 29659748936019556))
    .leaf)))) 18 (some (Pos.of 6523)))) .leaf) none .leaf) none .leaf))) none (.node (.node .leaf none (.node (.node (.node .leaf (some (.cells (.node (.node (.node (.node (.node
    .leaf (some (.int .i64 (.ofNat 2))) .leaf) (some (.str 4 1718773093)) .leaf) (some (.int .i64 (.ofNat 1))) (.node .leaf (some (.str 0 0)) .leaf)) (some (.str 5 418430873463))
    (.node (.node (.node .leaf (some (.str 3 7825519)) .leaf) (some (.int .i64 (.ofNat 3))) .leaf) (some (.str 0 0)) (.node .leaf (some (.str 0 0)) .leaf))) (some (.int .i64 (.ofNat
    2))) (.node (.node (.node (.node .leaf (some (.str 4 1684369017)) .leaf) (some (.str 0 0)) .leaf) (some (.str 6 131294808271214)) (.node .leaf (some (.int .i64 (.ofNat 5)))
    .leaf)) (some (.str 3 7825519)) (.node (.node .leaf (some (.str 0 0)) .leaf) (some (.int .i64 (.ofNat 1))) (.node .leaf (some (.str 0 0)) .leaf)))) 18 (some (Pos.of 9701))))
    .leaf) none .leaf) none .leaf)) none .leaf))) none .leaf))) none (.node (.node (.node .leaf none (.node (.node (.node (.node .leaf none (.node (.node .leaf (some (.cells (.node
    (.node (.node .leaf (some (.str 3 6382452)) .leaf) (some (.slice (Pos.of 4753) 0 2 none 3)) (.node .leaf (some .nilslice) .leaf)) (some (.str 3 7825519)) (.node (.node .leaf
    (some (.slice (Pos.of 5111) 0 1 none 3)) .leaf) (some .nilslice) .leaf)) 6 (some (Pos.of 5550)))) .leaf) none .leaf)) none .leaf) none .leaf) none .leaf)) none .leaf) none (.node
    (.node .leaf none (.node .leaf none (.node (.node (.node (.node .leaf none (.node .leaf (some (.cells (.node (.node .leaf (some (.str 0 0)) .leaf) (some (.str 5 452572766580))
    (.node .leaf (some (.str 0 0)) .leaf)) 3 none)) .leaf)) none .leaf) none .leaf) none .leaf))) none .leaf))) none (.node (.node (.node .leaf none (.node (.node .leaf none (.node
    .leaf none (.node .leaf none (.node .leaf none (.node .leaf none (.node .leaf (some (.cells (.node (.node (.node (.node .leaf (some (.slice (Pos.of 7609) 0 1 none 3)) .leaf)
    (some (.str 4 1684369017)) (.node .leaf (some .nilslice) .leaf)) (some (.slice (Pos.of 6893) 0 1 none 3)) (.node (.node .leaf (some (.str 4 1718773093)) .leaf) (some .nilslice)
    .leaf)) (some (.str 5 418430873463)) (.node (.node (.node .leaf (some .nilslice) .leaf) (some (.slice (Pos.of 7251) 0 1 none 3)) .leaf) (some .nilslice) (.node (.node .leaf (some
    (.slice (Pos.of 8019) 0 1 none 3)) .leaf) (some (.str 6 131294808271214)) .leaf))) 12 (some (Pos.of 9822)))) .leaf)))))) none .leaf)) none .leaf) none (.node (.node .leaf none
    (.node (.node .leaf none (.node (.node .leaf none (.node .leaf none (.node .leaf (some (.cells (.node (.node (.node (.node (.node .leaf (some (.str 4 1684369017)) .leaf) (some
    (.slice (Pos.of 2243) 0 1 none 3)) .leaf) (some (.str 5 444301538672)) (.node (.node .leaf (some (.slice (Pos.of 3675) 0 1 none 3)) .leaf) (some .nilslice) .leaf)) (some (.slice
    (Pos.of 1527) 0 1 none 3)) (.node (.node (.node .leaf (some .nilslice) .leaf) (some (.str 8 8243121615520555877)) .leaf) (some .nilslice) (.node .leaf (some (.slice (Pos.of 2959)
    0 1 none 3)) .leaf))) (some (.str 4 1970496882)) (.node (.node (.node (.node .leaf (some (.slice (Pos.of 3317) 0 1 none 3)) .leaf) (some .nilslice) .leaf) (some (.slice (Pos.of
    1885) 0 1 none 3)) (.node (.node .leaf (some .nilslice) .leaf) (some (.str 5 418430873463)) .leaf)) (some .nilslice) (.node (.node (.node .leaf (some (.str 5 422776761956))
    .leaf) (some (.slice (Pos.of 2601) 0 1 none 3)) .leaf) (some (.str 6 107079782723438)) (.node .leaf (some .nilslice) .leaf)))) 21 (some (Pos.of 4114)))) .leaf))) none .leaf))
    none .leaf)) none .leaf))) none (.node (.node (.node (.node .leaf none (.node .leaf none (.node .leaf none (.node .leaf none (.node .leaf (some (.cells (.node (.node .leaf (some
    (.str 0 0)) .leaf) (some (.str 6 115858713306482)) (.node .leaf (some (.str 0 0)) .leaf)) 3 none)) .leaf))))) none (.node (.node (.node (.node (.node (.node (.node (.node .leaf
    (some (.cells (.node (.node (.node (.node (.node .leaf (some (.str 4 1684369017)) .leaf) (some (.slice (Pos.of 2243) 0 1 none 3)) (.node .leaf (some .nilslice) .leaf)) (some
    (.str 5 444301538672)) (.node (.node .leaf (some (.slice (Pos.of 3675) 0 1 none 3)) .leaf) (some .nilslice) .leaf)) (some (.slice (Pos.of 1527) 0 1 none 3)) (.node (.node (.node
    .leaf (some .nilslice) .leaf) (some (.str 8 8243121615520555877)) .leaf) (some .nilslice) (.node (.node .leaf (some (.str 4 1718773093)) .leaf) (some (.slice (Pos.of 2959) 0 1
    none 3)) .leaf))) (some (.str 4 1970496882)) (.node (.node (.node (.node .leaf (some (.slice (Pos.of 3317) 0 1 none 3)) .leaf) (some .nilslice) .leaf) (some (.slice (Pos.of 1885)
    0 1 none 3)) (.node (.node .leaf (some .nilslice) .leaf) (some (.str 5 418430873463)) .leaf)) (some .nilslice) (.node (.node (.node .leaf (some (.str 5 422776761956)) .leaf)
    (some (.slice (Pos.of 2601) 0 1 none 3)) .leaf) (some (.str 6 107079782723438)) (.node (.node .leaf (some (.slice (Pos.of 4033) 0 1 none 3)) .leaf) (some .nilslice) .leaf)))) 24
    (some (Pos.of 3756)))) .leaf) none .leaf) none .leaf) none .leaf) none .leaf) none .leaf) none .leaf) none (.node .leaf none (.node (.node .leaf none (.node .leaf none (.node
    .leaf none (.node (.node .leaf (some (.cells (.node (.node .leaf (some (.str 0 0)) .leaf) (some (.str 5 452572766580)) (.node .leaf (some (.str 0 0)) .leaf)) 3 none)) .leaf) none
    .leaf)))) none .leaf)))) none .leaf) none (.node (.node .leaf none (.node (.node .leaf none (.node .leaf none (.node .leaf none (.node (.node (.node (.node .leaf (some (.cells
    (.node (.node .leaf (some (.str 0 0)) .leaf) (some (.str 6 115858713306482)) (.node .leaf (some (.str 0 0)) .leaf)) 3 (some (Pos.of 4753)))) .leaf) none .leaf) none .leaf) none
    .leaf)))) none .leaf)) none (.node (.node .leaf none (.node (.node .leaf none (.node .leaf none (.node (.node .leaf none (.node (.node .leaf (some (.cells (.node (.node (.node
    (.node .leaf (some (.slice (Pos.of 5469) 0 1 none 3)) .leaf) (some (.str 3 6382452)) .leaf) (some (.slice (Pos.of 4753) 0 2 none 3)) (.node .leaf (some .nilslice) .leaf)) (some
    (.str 3 7825519)) (.node (.node (.node .leaf (some .nilslice) .leaf) (some (.slice (Pos.of 5111) 0 1 none 3)) .leaf) (some .nilslice) (.node .leaf (some (.str 3 7497075))
    .leaf))) 9 (some (Pos.of 5192)))) .leaf) none .leaf)) none .leaf))) none .leaf)) none (.node (.node .leaf none (.node (.node (.node .leaf none (.node .leaf none (.node (.node
    (.node .leaf (some (.cells (.node (.node (.node (.node .leaf (some (.slice (Pos.of 7609) 0 1 none 3)) .leaf) (some (.str 4 1684369017)) (.node .leaf (some .nilslice) .leaf))
    (some (.slice (Pos.of 6893) 0 1 none 3)) (.node (.node .leaf (some (.str 4 1718773093)) .leaf) (some .nilslice) (.node .leaf (some .nilslice) .leaf))) (some (.str 5
    418430873463)) (.node (.node (.node .leaf (some .nilslice) .leaf) (some (.slice (Pos.of 7251) 0 1 none 3)) (.node .leaf (some (.str 3 6513006)) .leaf)) (some .nilslice) (.node
    (.node .leaf (some (.slice (Pos.of 8019) 0 1 none 3)) .leaf) (some (.str 6 131294808271214)) (.node .leaf (some (.slice (Pos.of 9701) 0 7 none 3)) .leaf)))) 15 (some (Pos.of
    8100)))) .leaf) none .leaf) none .leaf))) none .leaf) none .leaf)) none .leaf)))))), Pos.of 9905⟩⟩
noncomputable def LaKn100 : Kn := ⟨knA.vals, LaM100 :: knA.memo, knA.prims⟩
theorem LaCame100 : came (callFn (progOf Tryz.prog knA) (execQ (progOf Tryz.prog knA) 1000000000) LaM100.f LaM100.args LaM100.s) LaM100.v LaM100.s' = true := by decide +kernel
theorem LaOk100 : KnownOk Tryz.prog LaKn100 := known_came knA_ok mixed names LaM100 LaCame100
end Go.Proofs.YtpekifgpnbpnhaaGreat
